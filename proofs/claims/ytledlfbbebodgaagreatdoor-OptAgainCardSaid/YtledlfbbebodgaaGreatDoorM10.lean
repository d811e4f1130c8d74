/- Texts of this claim, merged: Mn5, Mn6, Ap2, Mn7, Mn8, Mn9, MnA, MnB, AsF. -/
import Derived.Test.YtledlfbbebodgaaGreatDoorM9
set_option maxRecDepth 100000
set_option linter.unusedSimpArgs false
set_option linter.unusedVariables false
set_option maxHeartbeats 8000000
section
namespace Cae
open Classical
noncomputable def eI (P:Int->Prop)(pts:List Int)(back:Bool)(i:Nat):Option Nat:=match eJ pts back i with
 | some (j,p)=>if P p then some j else none
 | none=>none
theorem EY {P:Int->Prop}{pts:List Int}{back:Bool}{l:List Nat}{j:Nat}:j∈l.filterMap (eI P pts back)↔∃i∈l,∃p,eJ pts back i=some (j,p)/\P p:=by
 rw[List.mem_filterMap];refine exists_congr λi=>and_congr Iff.rfl ?_;unfold eI;cases h:eJ pts back i with
 | none=>simp
 | some q =>
  obtain⟨k,p⟩:=q;by_cases hp:P p
  ·simp[hp];constructor
   ·intro Dd;exact⟨p,⟨Dd,rfl⟩,hp⟩
   rintro⟨p',⟨h1,_⟩,_⟩;exact h1
  simp[hp]
end Cae
namespace Go.Proofs.YtledlfbbebodgaaGreatDoor
open Go.Vc Go.Proofs Go.RowKit Cae
attribute [local irreducible] dd ae ak a7 runK bE Sl Vc.Own vc aU cJ a8
def xz (x:aF):Prop:=aj x->wd x<=100000->∀(X:Nat->Prop) (w:World) (rb mb:Nat) (us:List U) (nm:bG) (back:Bool),Mr X w rb mb us nm back->∀(v:Value),ai X w v x->∀(fv:Value) (from_:List Nat),Sl (λ_=>False) 1 (En aY) w fv from_->Arg fv->from_.Pairwise (·<·)->(∀i∈from_,i<=us.length) ->
 bE Tryz.prog 46 [.pointer (some ⟨rb,0,none⟩),v,fv] w λr w'=>Vc.Own w.heap.size 3 1 aY w' r (jd us.length (dF (bD nm) (bC us) back x) from_)/\Below w.heap.size w w'
theorem Dk {a b:List Nat}(h:bH a=bH b):a=b:=by
 have:=congrArg (List.map Int.toNat) h;unfold bH at this;rw[List.map_map,List.map_map]at this;have e:(Int.toNat∘λn:Nat=>(n:Int))=id:=funext λn=>by simp
 rw[e,List.map_id,List.map_id]at this;exact this
theorem vX {N:Nat}{R:Nat->Nat->Prop}{from_ L m1 m2:List Nat}(h1:bH m1=((bH L).mergeSort λx y=>decide (x<=y)))(h2:bH m2=Lib.compact (bH m1))(hm:∀j,j∈L↔j<=N/\∃i∈from_,R i j):m2=jd N R from_:=by
 obtain⟨m,e,hp,kV⟩:=qx L;rw[<-h1,<-h2]at e;have e:=Dk e;subst e;exact aAP hp λj=>by rw[kV j,hm j]
theorem kA {L m1:List Nat}(h1:bH m1=((bH L).mergeSort λx y=>decide (x<=y))):m1.length=L.length:=by
 have:=congrArg List.length h1;rw[(List.mergeSort_perm _ _).length_eq]at this;simpa[bH] using this
theorem TX:xz .fY:=by
 intro bJ jE X w rb mb us nm back h v hV fv from_ hf ha hr hle;have hlen:=h.len;have si:=cI hr hle;simp only[ai]at hV;obtain⟨b,rfl,hb,hB⟩:=hV;obtain⟨fa,fc,rfl,hfc⟩:=hf.shape;have d0:w.cell? ⟨b,0,none⟩=some (.int .i64 3):=hB.cell rfl;refine aE Tryz.func46 rfl (by kernel_rfl) [6] rfl ?_;push_cast -dsimp(maxSteps:=4000000) [Tryz.ntmps46];push_cast -dsimp[d0];refine aL [7,13,14,15,70,71,72,73,74,75,76,77,78,79,80,81,82,83,84,85,86] (λz wx=>∃(i:Nat) (ov:Value),z 70=.int .i64 i/\z 7=ov/\i<=from_.length/\Vc.Own w.heap.size 3 1 aY wx ov ((from_.take i).filter λa=>(eJ (bC us) back a).isNone)/\Below w.heap.size w wx) (λz _=>from_.length-(intOf (z 70)).toNat) ?_ ?_
 ·exact⟨0,_,rfl,rfl,Nat.zero_le _,Vc.Own.nil (enc:=aY) _ _ (λ_=>rfl) _,Below.refl _ _⟩
 intro z wx hI;obtain⟨i,ov,h70,h7,hi,hO,bT⟩:=hI;have zx:=bT.size;push_cast -dsimp[h70,h7];refine⟨λaw=>?_,λfT=>?_⟩
 ·obtain⟨a,hx,jQ,_,ht⟩:=au (l:=from_) (i:=i) (by omega);obtain⟨b1,o,rfl,jh,aK⟩:=(hf.below bT).get hx;have c0:wx.cell? ⟨b1,o+i,none⟩=some (.int .i64 (a:Int)):=by simpa[aY] using aK 0 _ rfl
  push_cast -dsimp[c0,Nat.mul_one];refine⟨⟨by omega,by omega⟩,?_⟩;refine aA (Mj (h.below bT) a (hle a jQ)) ?_;rintro r wy ⟨hS,iD⟩;have zy:=iD.size;have jc:=bT.trans (iD.mono zx);obtain⟨oa,oc,rfl⟩:=hO.slice;have uE:=hO.below iD;have hlL:((from_.take i).filter λa=>(eJ (bC us) back a).isNone).length<=i:=by
   have:=List.length_filter_le (λa=>(eJ (bC us) back a).isNone) (from_.take i);rw[List.length_take]at this;omega
  rcases hS with ⟨j,p,ba,rfl⟩|⟨ba,rfl⟩
  ·push_cast -dsimp;refine⟨λuN=>by omega,λ_=>⟨⟨by omega,by omega⟩,⟨i+1,_,rfl,rfl,by omega,?_,jc⟩,by rw[h70];simp only[intOf];omega⟩⟩;rw[ht,List.filter_append,List.filter_cons_of_neg (by simp[ba]),List.filter_nil,List.append_nil];exact uE
  push_cast -dsimp;refine cT bA rfl rfl (by omega) ?_;intro w5 cO;have z5:=cO.size;have ja:=uE.new cO;push_cast -dsimp;refine aS (base:=w.heap.size) [a] (enc:=aY) bA ja (by rfl) (λj u hu=>by rw[Nat.zero_add];exact cO.cell hu) (by simp[aY,Value.oneCell']) (by simp only[List.length_cons,List.length_nil];omega) (by omega) ?_;intro v6 w6 se hg6 hn6;have lp:Below w.heap.size w w6:=(jc.trans (cO.below.mono (by omega))).trans ((Kept.grown (X:=λj=>w.heap.size<=j) hg6 (λk hk=>(ja.block k hk).1)).below (by omega) (λ_ h=>h));push_cast -dsimp;refine⟨⟨by omega,by omega⟩,⟨i+1,_,rfl,rfl,by omega,?_,lp⟩,by rw[h70];simp only[intOf];omega⟩;rw[ht,List.filter_append,List.filter_cons_of_pos (by simp[ba]),List.filter_nil];exact se
 rw[List.take_of_length_le (by omega)]at hO;have hlL:=List.length_filter_le (λa=>(eJ (bC us) back a).isNone) from_;have kV:∀j,j∈(from_.filter λa=>(eJ (bC us) back a).isNone)↔j<=us.length/\∃i∈from_,dF (bD nm) (bC us) back .fY i j:=λj=>by
  rw[List.mem_filter,Option.isNone_iff_eq_none];simp only[dF];constructor
  ·rintro⟨h1,h2⟩;exact⟨hle j h1,j,h1,rfl,h2⟩
  rintro⟨_,i,h1,rfl,h2⟩;exact⟨h1,h2⟩
 have xK:=bT;have zF:=xK.size;refine aA (kL (from_.filter λa=>(eJ (bC us) back a).isNone) (by omega) (λ_=>False) _ (wx) (hO.sl.weaken (λ_ h=>h.elim)) hO.dR) ?_;rintro vc wc ⟨vw,mm⟩;have zc:=mm.size;push_cast -dsimp;refine aA (kF (from_.filter λa=>(eJ (bC us) back a).isNone) (by omega) _ vc wc vw) ?_;rintro _ wd ⟨⟨m1,jC,GB⟩,Cx⟩;have zd:=Cx.size;have si:=kA jC;push_cast -dsimp;refine aA (fX m1 (by omega) _ vc wd GB) ?_;rintro vr we ⟨⟨m2,dG,sD,uQ⟩,eN⟩;have Vw:=vX jC dG kV;subst Vw;push_cast -dsimp;exact⟨sD.mono zF,xK.trans ((mm.mono zF).trans ((Cx.below (by omega) (λi h=>by have:=vw.block i h;omega)).trans (eN.below (by omega) (λi h=>by have:=vw.block i h;omega))))⟩
theorem ZB:xz .any:=by
 intro bJ jE X w rb mb us nm back h v hV fv from_ hf ha hr hle;have hlen:=h.len;have si:=cI hr hle;simp only[ai]at hV;obtain⟨b,rfl,hb,hB⟩:=hV;obtain⟨fa,fc,rfl,hfc⟩:=hf.shape;have d0:w.cell? ⟨b,0,none⟩=some (.int .i64 2):=hB.cell rfl;refine aE Tryz.func46 rfl (by kernel_rfl) [6] rfl ?_;push_cast -dsimp(maxSteps:=4000000) [Tryz.ntmps46];push_cast -dsimp[d0];refine aL [7,9,10,11,33,34,35,36,37,38,39,40,41,42,43,44,45,46,47,48,49,50,51,52,53,54,55,56,57,58,59,60,61,62,63,64,65] (λz wx=>∃(i:Nat) (ov:Value),z 33=.int .i64 i/\z 7=ov/\i<=from_.length/\Vc.Own w.heap.size 3 1 aY wx ov ((from_.take i).filterMap (eI (λ_=>True) (bC us) back))/\Below w.heap.size w wx) (λz _=>from_.length-(intOf (z 33)).toNat) ?_ ?_
 ·exact⟨0,_,rfl,rfl,Nat.zero_le _,Vc.Own.nil (enc:=aY) _ _ (λ_=>rfl) _,Below.refl _ _⟩
 intro z wx hI;obtain⟨i,ov,h33,h7,hi,hO,bT⟩:=hI;have zx:=bT.size;have nu:=hB.below bT hB.lt;have f0:wx.cell? ⟨b,0,none⟩=some (.int .i64 2):=nu.cell rfl;push_cast -dsimp[h33,h7];refine⟨λaw=>?_,λfT=>?_⟩
 ·obtain⟨a,hx,jQ,_,ht⟩:=au (l:=from_) (i:=i) (by omega);obtain⟨b1,o,rfl,jh,aK⟩:=(hf.below bT).get hx;have c0:wx.cell? ⟨b1,o+i,none⟩=some (.int .i64 (a:Int)):=by simpa[aY] using aK 0 _ rfl
  push_cast -dsimp[c0,Nat.mul_one];refine⟨⟨by omega,by omega⟩,?_⟩;refine aA (Mj (h.below bT) a (hle a jQ)) ?_;rintro r wy ⟨hS,iD⟩;have zy:=iD.size;have jc:=bT.trans (iD.mono zx);obtain⟨oa,oc,rfl⟩:=hO.slice;have uE:=hO.below iD;have Zp:=nu.below iD nu.lt;have g0:wy.cell? ⟨b,0,none⟩=some (.int .i64 2):=Zp.cell rfl;have hlL:((from_.take i).filterMap (eI (λ_=>True) (bC us) back)).length<=i:=by
   have:=List.length_filterMap_le (eI (λ_=>True) (bC us) back) (from_.take i);rw[List.length_take]at this;omega
  have tk:(from_.take (i+1)).filterMap (eI (λ_=>True) (bC us) back)=(from_.take i).filterMap (eI (λ_=>True) (bC us) back)++(eI (λ_=>True) (bC us) back a).toList:=by
   rw[ht,List.filterMap_append];exact congrArg _ (by cases hq:eI (λ_=>True) (bC us) back a<;>simp[List.filterMap_cons,hq])
  rcases hS with ⟨j,p,ba,rfl⟩|⟨ba,rfl⟩
  ·skip;have hF:eI (λ_=>True) (bC us) back a=some j:=by unfold eI;rw[ba];simp
   push_cast -dsimp[g0];refine⟨λ_=>?_,λhn=>by omega⟩;refine cT bA rfl rfl (by omega) ?_;intro w5 cO;have z5:=cO.size;have fL:=jc;have zb3:=fL.size;have ja:=(uE).new cO;push_cast -dsimp;refine aS (base:=w.heap.size) [j] (enc:=aY) bA ja (by rfl) (λj u hu=>by rw[Nat.zero_add];exact cO.cell hu) (by simp[aY,Value.oneCell']) (by simp only[List.length_cons,List.length_nil];omega) (by omega) ?_;intro v6 w6 se hg6 hn6;have lp:Below w.heap.size w w6:=(fL.trans (cO.below.mono (by omega))).trans ((Kept.grown (X:=λj=>w.heap.size<=j) hg6 (λk hk=>(ja.block k hk).1)).below (by omega) (λ_ h=>h));rw[hF]at tk;push_cast -dsimp;refine⟨⟨by omega,by omega⟩,⟨i+1,_,rfl,rfl,by omega,?_,lp⟩,by rw[h33];simp only[intOf];omega⟩;rw[tk];exact se
  have hF:eI (λ_=>True) (bC us) back a=none:=by unfold eI;rw[ba]
  rw[hF]at tk;push_cast -dsimp;refine⟨⟨by omega,by omega⟩,⟨i+1,_,rfl,rfl,by omega,?_,jc⟩,by rw[h33];simp only[intOf];omega⟩;rw[tk];simpa using uE
 rw[List.take_of_length_le (by omega)]at hO;have hlL:=List.length_filterMap_le (eI (λ_=>True) (bC us) back) from_;have kV:∀j,j∈from_.filterMap (eI (λ_=>True) (bC us) back)↔j<=us.length/\∃i∈from_,dF (bD nm) (bC us) back .any i j:=λj=>by
  rw[EY];simp only[dF];constructor
  ·rintro⟨i,h1,p,h2,h3⟩;exact⟨by have:=kW h2 (by rw[eU];exact hle i h1);rw[eU]at this;exact this,i,h1,by first|exact⟨p,h2,h3⟩|exact⟨p,h2⟩⟩
  rintro⟨_,i,h1,hh⟩
  first
   | (obtain⟨p,h2,h3⟩:=hh;exact⟨i,h1,p,h2,h3⟩)
   | (obtain⟨p,h2⟩:=hh;exact⟨i,h1,p,h2,trivial⟩)
 have xK:=bT;have zF:=xK.size;refine aA (kL (from_.filterMap (eI (λ_=>True) (bC us) back)) (by omega) (λ_=>False) _ (wx) (hO.sl.weaken (λ_ h=>h.elim)) hO.dR) ?_;rintro vc wc ⟨vw,mm⟩;have zc:=mm.size;push_cast -dsimp;refine aA (kF (from_.filterMap (eI (λ_=>True) (bC us) back)) (by omega) _ vc wc vw) ?_;rintro _ wd ⟨⟨m1,jC,GB⟩,Cx⟩;have zd:=Cx.size;have si:=kA jC;push_cast -dsimp;refine aA (fX m1 (by omega) _ vc wd GB) ?_;rintro vr we ⟨⟨m2,dG,sD,uQ⟩,eN⟩;have Vw:=vX jC dG kV;subst Vw;push_cast -dsimp;exact⟨sD.mono zF,xK.trans ((mm.mono zF).trans ((Cx.below (by omega) (λi h=>by have:=vw.block i h;omega)).trans (eN.below (by omega) (λi h=>by have:=vw.block i h;omega))))⟩
theorem ZD (k:ao):xz (.one k):=by
 intro bJ jE X w rb mb us nm back h v hV fv from_ hf ha hr hle;have hlen:=h.len;have si:=cI hr hle;simp only[ai]at hV;simp only[aj]at bJ;obtain⟨b,u,rfl,hb,hB,h1⟩:=hV;obtain⟨kb,rfl,Cv⟩:=h1.ptr;obtain⟨fa,fc,rfl,hfc⟩:=hf.shape;have d0:w.cell? ⟨b,0,none⟩=some (.int .i64 1):=hB.cell rfl;refine aE Tryz.func46 rfl (by kernel_rfl) [6] rfl ?_;push_cast -dsimp(maxSteps:=4000000) [Tryz.ntmps46];push_cast -dsimp[d0];refine aL [7,9,10,11,33,34,35,36,37,38,39,40,41,42,43,44,45,46,47,48,49,50,51,52,53,54,55,56,57,58,59,60,61,62,63,64,65] (λz wx=>∃(i:Nat) (ov:Value),z 33=.int .i64 i/\z 7=ov/\i<=from_.length/\Vc.Own w.heap.size 3 1 aY wx ov ((from_.take i).filterMap (eI (bD nm k) (bC us) back))/\Below w.heap.size w wx) (λz _=>from_.length-(intOf (z 33)).toNat) ?_ ?_
 ·exact⟨0,_,rfl,rfl,Nat.zero_le _,Vc.Own.nil (enc:=aY) _ _ (λ_=>rfl) _,Below.refl _ _⟩
 intro z wx hI;obtain⟨i,ov,h33,h7,hi,hO,bT⟩:=hI;have zx:=bT.size;have nu:=hB.below bT hB.lt;have f0:wx.cell? ⟨b,0,none⟩=some (.int .i64 1):=nu.cell rfl;push_cast -dsimp[h33,h7];refine⟨λaw=>?_,λfT=>?_⟩
 ·obtain⟨a,hx,jQ,_,ht⟩:=au (l:=from_) (i:=i) (by omega);obtain⟨b1,o,rfl,jh,aK⟩:=(hf.below bT).get hx;have c0:wx.cell? ⟨b1,o+i,none⟩=some (.int .i64 (a:Int)):=by simpa[aY] using aK 0 _ rfl
  push_cast -dsimp[c0,Nat.mul_one];refine⟨⟨by omega,by omega⟩,?_⟩;refine aA (Mj (h.below bT) a (hle a jQ)) ?_;rintro r wy ⟨hS,iD⟩;have zy:=iD.size;have jc:=bT.trans (iD.mono zx);obtain⟨oa,oc,rfl⟩:=hO.slice;have uE:=hO.below iD;have Zp:=nu.below iD nu.lt;have g0:wy.cell? ⟨b,0,none⟩=some (.int .i64 1):=Zp.cell rfl;have hlL:((from_.take i).filterMap (eI (bD nm k) (bC us) back)).length<=i:=by
   have:=List.length_filterMap_le (eI (bD nm k) (bC us) back) (from_.take i);rw[List.length_take]at this;omega
  have tk:(from_.take (i+1)).filterMap (eI (bD nm k) (bC us) back)=(from_.take i).filterMap (eI (bD nm k) (bC us) back)++(eI (bD nm k) (bC us) back a).toList:=by
   rw[ht,List.filterMap_append];exact congrArg _ (by cases hq:eI (bD nm k) (bC us) back a<;>simp[List.filterMap_cons,hq])
  rcases hS with ⟨j,p,ba,rfl⟩|⟨ba,rfl⟩
  ·skip;have g1:wy.cell? ⟨b,1,none⟩=some (.pointer (some ⟨kb,0,none⟩)):=Zp.cell rfl;push_cast -dsimp[g0,g1];refine⟨λ_=>?_,λhn=>by omega⟩;refine aA (aEh (h.below jc) k bJ _ (h1.below jc) p) ?_;rintro _ w4 ⟨⟨bb,rfl,jK⟩,kj⟩;have z4:=kj.size;have vZ:=uE.below kj;have j0:=jc.trans (kj.mono (by omega));cases bb with
   | true =>
    have hF:eI (bD nm k) (bC us) back a=some j:=by unfold eI;rw[ba];exact if_pos (jK.1 rfl)
    push_cast -dsimp;refine cT bA rfl rfl (by omega) ?_;intro w5 cO;have z5:=cO.size;have fL:=j0;have zb3:=fL.size;have ja:=(vZ).new cO;push_cast -dsimp;refine aS (base:=w.heap.size) [j] (enc:=aY) bA ja (by rfl) (λj u hu=>by rw[Nat.zero_add];exact cO.cell hu) (by simp[aY,Value.oneCell']) (by simp only[List.length_cons,List.length_nil];omega) (by omega) ?_;intro v6 w6 se hg6 hn6;have lp:Below w.heap.size w w6:=(fL.trans (cO.below.mono (by omega))).trans ((Kept.grown (X:=λj=>w.heap.size<=j) hg6 (λk hk=>(ja.block k hk).1)).below (by omega) (λ_ h=>h));rw[hF]at tk;push_cast -dsimp;refine⟨⟨by omega,by omega⟩,⟨i+1,_,rfl,rfl,by omega,?_,lp⟩,by rw[h33];simp only[intOf];omega⟩;rw[tk];exact se
   | false =>
    have hF:eI (bD nm k) (bC us) back a=none:=by unfold eI;rw[ba];exact if_neg (λhh=>by have:=jK.2 hh;cases this)
    rw[hF]at tk;push_cast -dsimp;refine⟨⟨by omega,by omega⟩,⟨i+1,_,rfl,rfl,by omega,?_,j0⟩,by rw[h33];simp only[intOf];omega⟩;rw[tk];simpa using vZ
  have hF:eI (bD nm k) (bC us) back a=none:=by unfold eI;rw[ba]
  rw[hF]at tk;push_cast -dsimp;refine⟨⟨by omega,by omega⟩,⟨i+1,_,rfl,rfl,by omega,?_,jc⟩,by rw[h33];simp only[intOf];omega⟩;rw[tk];simpa using uE
 rw[List.take_of_length_le (by omega)]at hO;have hlL:=List.length_filterMap_le (eI (bD nm k) (bC us) back) from_;have kV:∀j,j∈from_.filterMap (eI (bD nm k) (bC us) back)↔j<=us.length/\∃i∈from_,dF (bD nm) (bC us) back (.one k) i j:=λj=>by
  rw[EY];simp only[dF];constructor
  ·rintro⟨i,h1,p,h2,h3⟩;exact⟨by have:=kW h2 (by rw[eU];exact hle i h1);rw[eU]at this;exact this,i,h1,by first|exact⟨p,h2,h3⟩|exact⟨p,h2⟩⟩
  rintro⟨_,i,h1,hh⟩
  first
   | (obtain⟨p,h2,h3⟩:=hh;exact⟨i,h1,p,h2,h3⟩)
   | (obtain⟨p,h2⟩:=hh;exact⟨i,h1,p,h2,trivial⟩)
 have xK:=bT;have zF:=xK.size;refine aA (kL (from_.filterMap (eI (bD nm k) (bC us) back)) (by omega) (λ_=>False) _ (wx) (hO.sl.weaken (λ_ h=>h.elim)) hO.dR) ?_;rintro vc wc ⟨vw,mm⟩;have zc:=mm.size;push_cast -dsimp;refine aA (kF (from_.filterMap (eI (bD nm k) (bC us) back)) (by omega) _ vc wc vw) ?_;rintro _ wd ⟨⟨m1,jC,GB⟩,Cx⟩;have zd:=Cx.size;have si:=kA jC;push_cast -dsimp;refine aA (fX m1 (by omega) _ vc wd GB) ?_;rintro vr we ⟨⟨m2,dG,sD,uQ⟩,eN⟩;have Vw:=vX jC dG kV;subst Vw;push_cast -dsimp;exact⟨sD.mono zF,xK.trans ((mm.mono zF).trans ((Cx.below (by omega) (λi h=>by have:=vw.block i h;omega)).trans (eN.below (by omega) (λi h=>by have:=vw.block i h;omega))))⟩
end Go.Proofs.YtledlfbbebodgaaGreatDoor
end
section
namespace Go.Proofs.YtledlfbbebodgaaGreatDoor
open Go.Vc Go.Proofs Go.RowKit Cae
attribute [local irreducible] dd ae ak a7 runK bE Sl Vc.Own vc aU cJ a8
theorem ZC (l:List aF)(cN:∀x∈l,xz x):xz (.cat l):=by
 intro bJ jE X w rb mb us nm back h v hV fv from_ hf ha hr hle;have hlen:=h.len;have si:=cI hr hle;have uR:=wW (l:=l);simp only[ai]at hV;simp only[aj]at bJ;obtain⟨b,sv,vs,rfl,hb,hB,hs,hV⟩:=hV;have hvl:=hV.len;obtain⟨sa,sc,rfl,vz⟩:=hs.shape;rw[hvl]at hB hs vz;obtain⟨fa,fc,rfl,hfc⟩:=hf.shape;obtain⟨lv,hBr,hlv⟩:=h.st;have d0:w.cell? ⟨b,0,none⟩=some (.int .i64 4):=hB.cell rfl;have d2:w.cell? ⟨b,2,none⟩=some (.slice sa l.length sc):=hB.cell rfl;refine aE Tryz.func46 rfl (by kernel_rfl) [6] rfl ?_;push_cast -dsimp(maxSteps:=4000000) [Tryz.ntmps46];push_cast -dsimp[d0,d2];refine aL [7,16,17,95,96,97,98,99,100,101,102,103,104,105,106,107,108,109,110,111,112,113,114,115,116,117,118,119,120,121] (λz wx=>∃(n:Nat) (ov:Value) (L:List Nat),z 95=.int .i64 n/\z 7=ov/\n<=l.length/\Sl (λ_=>False) 1 (En aY) wx ov L/\Arg ov/\L.Pairwise (·<·)/\(∀j,j∈L↔j<=us.length/\∃i∈from_,Cg (bD nm) (bC us) back l n i j)/\Below w.heap.size w wx) (λz _=>l.length-(intOf (z 95)).toNat) ?_ ?_
 ·refine⟨0,_,from_,rfl,rfl,Nat.zero_le _,hf,ha,hr,λj=>?_,Below.refl _ _⟩;constructor
  ·intro hj;exact⟨hle j hj,j,hj,DY.2 rfl⟩
  rintro⟨_,i,hi,h2⟩;rw[<-DY.1 h2];exact hi
 intro z wx hI;obtain⟨n,ov,L,h95,h7,hn,hL,haL,hrL,Dh,bT⟩:=hI;have zx:=bT.size;have nu:=hB.below bT hB.lt;have aLR:=hBr.below bT hBr.lt;have e2:wx.cell? ⟨b,2,none⟩=some (.slice sa l.length sc):=nu.cell rfl;have eb:wx.cell? ⟨rb,2,none⟩=some (.bool back):=aLR.cell rfl;have hll:=uR.2.1;push_cast -dsimp[h95,h7];refine⟨λaw=>?_,λfT=>?_⟩
 ·cases back with
  | true =>
   have tn:((l.length:Int)-1-n).toNat=l.length-1-n:=by omega
   have hkx:∃x,l[l.length-1-n]?=some x:=⟨l[l.length-1-n]'(by omega),List.getElem?_eq_getElem (by omega)⟩;obtain⟨x,hx⟩:=hkx;obtain⟨u,hu,QF⟩:=aQ.nth hV hx;obtain⟨b1,o,rfl,jh,aK⟩:=(hs.below bT).get hu;have c0:wx.cell? ⟨b1,o+(l.length-1-n),none⟩=some (.pointer (some ⟨u,0,none⟩)):=by simpa[fB,bd] using aK 0 _ rfl
   push_cast -dsimp[eb,e2,tn,c0,Nat.mul_one];refine⟨⟨by omega,by omega⟩,⟨by omega,by omega⟩,⟨by omega,by omega⟩,?_⟩;have jQ:=List.mem_of_getElem? hx;refine aA (cN x jQ (fe bJ jQ) (by have:=uR.2.2 x jQ;omega) X wx rb mb us nm _ (h.below bT) _ (ai.below QF bT) ov L hL haL hrL (λj hj=>((Dh j).1 hj).1)) ?_;rintro r wy ⟨hO,iD⟩;have zy:=iD.size;have Cm:Arg r:=hO.dR;push_cast -dsimp;refine⟨⟨by omega,by omega⟩,⟨n+1,_,_,rfl,rfl,by omega,hO.sl.weaken (λ_ h=>h.elim),Cm,cG _ _ _,λj=>?_,bT.trans (iD.mono zx)⟩,by rw[h95];simp only[intOf];omega⟩;rw[fr];refine and_congr Iff.rfl ?_;constructor
   ·rintro⟨m,hm,h2⟩;obtain⟨_,i,hi,h3⟩:=(Dh m).1 hm;exact⟨i,hi,(rI (by omega) hx).2 ⟨m,h3,h2⟩⟩
   rintro⟨i,hi,h3⟩;obtain⟨m,h4,h5⟩:=(rI (by omega) hx).1 h3;exact⟨m,(Dh m).2 ⟨by have:=NL (by rw[eU];exact hle i hi) h4;rw[eU]at this;exact this,i,hi,h4⟩,h5⟩
  | false =>
   have hkx:∃x,l[n]?=some x:=⟨l[n]'(by omega),List.getElem?_eq_getElem (by omega)⟩;obtain⟨x,hx⟩:=hkx;obtain⟨u,hu,QF⟩:=aQ.nth hV hx;obtain⟨b1,o,rfl,jh,aK⟩:=(hs.below bT).get hu;have c0:wx.cell? ⟨b1,o+n,none⟩=some (.pointer (some ⟨u,0,none⟩)):=by simpa[fB,bd] using aK 0 _ rfl
   push_cast -dsimp[eb,e2,c0,Nat.mul_one];refine⟨⟨by omega,by omega⟩,?_⟩;have jQ:=List.mem_of_getElem? hx;refine aA (cN x jQ (fe bJ jQ) (by have:=uR.2.2 x jQ;omega) X wx rb mb us nm _ (h.below bT) _ (ai.below QF bT) ov L hL haL hrL (λj hj=>((Dh j).1 hj).1)) ?_;rintro r wy ⟨hO,iD⟩;have zy:=iD.size;have Cm:Arg r:=hO.dR;push_cast -dsimp;refine⟨⟨by omega,by omega⟩,⟨n+1,_,_,rfl,rfl,by omega,hO.sl.weaken (λ_ h=>h.elim),Cm,cG _ _ _,λj=>?_,bT.trans (iD.mono zx)⟩,by rw[h95];simp only[intOf];omega⟩;rw[fr];refine and_congr Iff.rfl ?_;constructor
   ·rintro⟨m,hm,h2⟩;obtain⟨_,i,hi,h3⟩:=(Dh m).1 hm;exact⟨i,hi,(rI (by omega) hx).2 ⟨m,h3,h2⟩⟩
   rintro⟨i,hi,h3⟩;obtain⟨m,h4,h5⟩:=(rI (by omega) hx).1 h3;exact⟨m,(Dh m).2 ⟨by have:=NL (by rw[eU];exact hle i hi) h4;rw[eU]at this;exact this,i,hi,h4⟩,h5⟩
 have hnl:n=l.length:=by omega
 subst hnl;have hlL:=cI hrL (λj hj=>((Dh j).1 hj).1);have kV:∀j,j∈L↔j<=us.length/\∃i∈from_,dF (bD nm) (bC us) back (.cat l) i j:=λj=>by
  rw[Dh j];refine and_congr Iff.rfl (exists_congr λi=>and_congr Iff.rfl UM)
 have xK:=bT;have zF:=xK.size;refine aA (kL L (by omega) (λ_=>False) _ (wx) hL haL) ?_;rintro vc wc ⟨vw,mm⟩;have zc:=mm.size;push_cast -dsimp;refine aA (kF L (by omega) _ vc wc vw) ?_;rintro _ wd ⟨⟨m1,jC,GB⟩,Cx⟩;have zd:=Cx.size;have si:=kA jC;push_cast -dsimp;refine aA (fX m1 (by omega) _ vc wd GB) ?_;rintro vr we ⟨⟨m2,dG,sD,uQ⟩,eN⟩;have Vw:=vX jC dG kV;subst Vw;push_cast -dsimp;exact⟨sD.mono zF,xK.trans ((mm.mono zF).trans ((Cx.below (by omega) (λi h=>by have:=vw.block i h;omega)).trans (eN.below (by omega) (λi h=>by have:=vw.block i h;omega))))⟩
theorem ZA (l:List aF)(cN:∀x∈l,xz x):xz (.alt l):=by
 intro bJ jE X w rb mb us nm back h v hV fv from_ hf ha hr hle;have hlen:=h.len;have si:=cI hr hle;have uR:=wV (l:=l);have hll:=uR.2.1;simp only[ai]at hV;simp only[aj]at bJ;obtain⟨b,sv,vs,rfl,hb,hB,hs,hV⟩:=hV;have hvl:=hV.len;obtain⟨sa,sc,rfl,vz⟩:=hs.shape;rw[hvl]at hB hs vz;obtain⟨fa,fc,rfl,hfc⟩:=hf.shape;have d0:w.cell? ⟨b,0,none⟩=some (.int .i64 5):=hB.cell rfl;have d2:w.cell? ⟨b,2,none⟩=some (.slice sa l.length sc):=hB.cell rfl;refine aE Tryz.func46 rfl (by kernel_rfl) [6] rfl ?_;push_cast -dsimp(maxSteps:=4000000) [Tryz.ntmps46];push_cast -dsimp[d0,d2];refine aL [7,19,129,130,131,132,133,134,135,136,137,138,139] (λz wx=>∃(n:Nat) (ov:Value) (L:List Nat),z 129=.int .i64 n/\z 7=ov/\n<=l.length/\Vc.Own w.heap.size 3 1 aY wx ov L/\L.length<=n*(us.length+1)/\(∀j,j∈L↔j<=us.length/\∃i∈from_,∃y∈l.take n,dF (bD nm) (bC us) back y i j)/\Below w.heap.size w wx) (λz _=>l.length-(intOf (z 129)).toNat) ?_ ?_
 ·exact⟨0,_,[],rfl,rfl,Nat.zero_le _,Vc.Own.nil (enc:=aY) _ _ (λ_=>rfl) _,by simp,λj=>by simp,Below.refl _ _⟩
 intro z wx hI;obtain⟨n,ov,L,aHR,h7,hn,hO,hlL,Dh,bT⟩:=hI;have zx:=bT.size;have hnl:n*(us.length+1)<=l.length*(us.length+1):=Nat.mul_le_mul_right _ hn;have aSJ:l.length*(us.length+1)<=100000*1001:=Nat.mul_le_mul (by omega) (by omega);push_cast -dsimp[aHR,h7];refine⟨λaw=>?_,λfT=>?_⟩
 ·obtain⟨x,hx,jQ,_,ht⟩:=au (l:=l) (i:=n) (by omega);obtain⟨u,hu,QF⟩:=aQ.nth hV hx;obtain⟨b1,o,rfl,jh,aK⟩:=(hs.below bT).get hu;have c0:wx.cell? ⟨b1,o+n,none⟩=some (.pointer (some ⟨u,0,none⟩)):=by simpa[fB,bd] using aK 0 _ rfl
  push_cast -dsimp[c0,Nat.mul_one];refine⟨⟨by omega,by omega⟩,?_⟩;refine aA (cN x jQ (fe bJ jQ) (by have:=uR.2.2 x jQ;omega) X wx rb mb us nm _ (h.below bT) _ (ai.below QF bT) _ from_ (hf.below bT) ha hr hle) ?_;rintro r wy ⟨fJ,iD⟩;have zy:=iD.size;have Cm:Arg r:=fJ.dR;have uE:=hO.below iD;have HG:=cI (cG us.length (dF (bD nm) (bC us) back x) from_) (λj hj=>(fr.1 hj).1);have Yl:(n+1)*(us.length+1)=n*(us.length+1)+(us.length+1):=by rw[Nat.add_mul];omega
  push_cast -dsimp;refine ln (base:=w.heap.size) (enc:=aY) (ys:=jd us.length (dF (bD nm) (bC us) back x) from_) bA uE (fJ.sl) Cm (by simp[aY,Value.oneCell']) (by omega) (by omega) ?_;intro v8 w8 hO8 Sy jg;push_cast -dsimp;refine⟨⟨by omega,by omega⟩,⟨n+1,_,_,rfl,rfl,by omega,hO8,by rw[List.length_append];omega,λj=>?_,(bT.trans (iD.mono zx)).trans (jg.mono (by omega))⟩,by rw[aHR];simp only[intOf];omega⟩;rw[List.mem_append,Dh j,fr,ht];constructor
  ·rintro(⟨h1,i,hi,y,hy,h2⟩|⟨h1,i,hi,h2⟩)
   ·exact⟨h1,i,hi,y,List.mem_append_left _ hy,h2⟩
   exact⟨h1,i,hi,x,by simp,h2⟩
  rintro⟨h1,i,hi,y,hy,h2⟩;rw[List.mem_append,List.mem_singleton]at hy;rcases hy with hy|rfl
  ·exact .inl ⟨h1,i,hi,y,hy,h2⟩
  exact .inr ⟨h1,i,hi,h2⟩
 have hnl:n=l.length:=by omega
 subst hnl;rw[List.take_length]at Dh;have kV:∀j,j∈L↔j<=us.length/\∃i∈from_,dF (bD nm) (bC us) back (.alt l) i j:=λj=>by
  rw[Dh j];refine and_congr Iff.rfl (exists_congr λi=>and_congr Iff.rfl ?_);simp only[dF];rw[Xg]
 have xK:=bT;have zF:=xK.size;refine aA (kL L (by omega) (λ_=>False) _ (wx) (hO.sl.weaken (λ_ h=>h.elim)) hO.dR) ?_;rintro vc wc ⟨vw,mm⟩;have zc:=mm.size;push_cast -dsimp;refine aA (kF L (by omega) _ vc wc vw) ?_;rintro _ wd ⟨⟨m1,jC,GB⟩,Cx⟩;have zd:=Cx.size;have si:=kA jC;push_cast -dsimp;refine aA (fX m1 (by omega) _ vc wd GB) ?_;rintro vr we ⟨⟨m2,dG,sD,uQ⟩,eN⟩;have Vw:=vX jC dG kV;subst Vw;push_cast -dsimp;exact⟨sD.mono zF,xK.trans ((mm.mono zF).trans ((Cx.below (by omega) (λi h=>by have:=vw.block i h;omega)).trans (eN.below (by omega) (λi h=>by have:=vw.block i h;omega))))⟩
end Go.Proofs.YtledlfbbebodgaaGreatDoor
end
section
namespace Go.Vc
open Go.RowKit
section
variable {P:Program} {t:Fr} {w:World} {K:VK} {Q:EP}
theorem oh {α:Type}{bt ty e:TypeId}{k bytes base:Nat}{enc:α->List Value}{X:Nat->Prop}{v x:Value}{l ys:List α}{p}(hE:Ci P bt=some (e,k,bytes))(gN:Vc.Own base e k enc w v l)(hx:Sl X k (En enc) w x ys)
  (yP:∀n c,x=.slice none n c->n=0/\c=0) (h1:∀x,∀u∈enc x,u.oneCell'=true)
  (hm:(l.length+ys.length)*bytes<=140737488355328) (qL:base<=w.heap.size)
  (kk:∀v' w',Vc.Own base e k enc w' v' (l++ys)->w.grownBy w' v.ownBlock->Below base w w'->(∀g,v'.ownBlock=some g->v.ownBlock=some g\/w.heap.size<=g)->K v' w'):ak P (Builtin.append_ #[bt,bt] ty [v,x].toArray) t w K Q p:=by
 obtain⟨hu,i,z,hi,hz,rfl,rfl,Lu,hk,iD⟩:=mJ hE;have hlen:∀(ys:List α),(ys.flatMap enc).length=ys.length*i.size:=by
  intro ys;induction ys with
  | nil=>simp
  | cons y ys ih=>simp[List.flatMap_cons,gN.2,ih,Nat.add_mul];omega
 have hle:l.length+ys.length<=140737488355328:=Nat.le_trans (Nat.le_mul_of_pos_right _ iD) hm;unfold Sl at hx;obtain⟨a,c,rfl,hc,yN⟩:=hx;cases a with
 | none =>
  obtain⟨h0,rfl⟩:=yP _ _ rfl;have:ys=[]:=List.eq_nil_of_length_eq_zero h0;subst this;have hr:=run_append_owned_none (P:=P) w base bt ty e i i.size hu hi v l.length (l.flatMap enc) gN.1;refine eu (w':=w) (v:=v) hr (kk v w (by rw[List.append_nil];exact gN) ⟨rfl,rfl,rfl,Nat.le_refl _,λ_ _ _=>rfl⟩ (Below.refl _ _) (λg hg=>.inl hg))
 | some ad =>
  have hy:∀j u,(ys.flatMap enc)[j]?=some u->w.cell? (ad.add j)=some u:=by
   intro j u hj;have hjl:=(List.getElem?_eq_some_iff.1 hj).1;rw[hlen]at hjl;have hq:j / i.size<ys.length:=Nat.div_lt_of_lt_mul (by rw[Nat.mul_comm];exact hjl);have hy0:ys[j / i.size]?=some ys[j / i.size]:=List.getElem?_eq_getElem hq;obtain⟨b,o,cs,hb,_,iW,aK,rfl⟩:=yN _ _ hy0;cases hb;have hr:j % i.size<(enc ys[j / i.size]).length:=by rw[iW];exact Nat.mod_lt _ hk
   have hg:=kM gN.2 ys (j / i.size) (j % i.size) _ _ hy0 (List.getElem?_eq_getElem hr);have ej:j / i.size*i.size+j % i.size=j:=by rw[Nat.mul_comm];exact Nat.div_add_mod j i.size
   rw[ej,hj]at hg
   have:=aK _ _ (List.getElem?_eq_getElem hr);rw[add_lit];rw[Nat.add_assoc,ej]at this;rw[this,hg]
  obtain⟨v',w',hr,ho,hg,_⟩:=run_append_own (P:=P) w base bt ty e i z i.size i.bytes hu hi hz rfl rfl Lu hk v l.length (l.flatMap enc) gN.1 ad ys.length c (ys.flatMap enc) (hlen ys)
   hy (λu HK=>by obtain⟨x,_,hx⟩:=List.mem_flatMap.1 HK;exact h1 x u hx) (by simp only[maxLen];omega) hm qL
  have yi:∀u∈ys.flatMap enc,u.oneCell'=true:=λu HK=>by obtain⟨x,_,hx⟩:=List.mem_flatMap.1 HK;exact h1 x u hx
  refine eu hr (kk v' w' ⟨by simpa[List.flatMap_append] using ho,gN.2⟩ hg ((Below.refl _ _).grown hg qL λk hk=>(gN.1.lt k hk).1) ?_);intro g' vM;rcases gN.1.2 with ⟨rfl,h0⟩|⟨g,cap,cur,rfl,hbg,Ig,vN,sC,iW,aJG⟩
  ·have hl:l=[]:=List.eq_nil_of_length_eq_zero h0;subst hl;have WK:w.ownsRow w.heap.size e i.size (.slice none 0 0) 0 []:=World.ownsRow_nil _ _ _ _;obtain⟨v2,w2,vx,ob,_,_⟩:=run_append_own (P:=P) w w.heap.size bt ty e i z i.size i.bytes hu hi hz rfl rfl Lu hk _ 0 [] WK ad ys.length c (ys.flatMap enc) (hlen ys)
    hy yi (by simp only[maxLen];omega) (by simpa using hm) (Nat.le_refl _)
   have:=hr.symm.trans vx;cases this;exact .inr (ob.lt g' vM).1
  by_cases WM:l.length+ys.length<=cap
  ·obtain⟨w2,vx,_⟩:=run_append_fits (P:=P) (w:=w) base bt ty e i i.size hu hi rfl g l.length cap (l.flatMap enc) gN.1 ad ys.length c (ys.flatMap enc) (hlen ys) hy yi WM
   have:=hr.symm.trans vx;cases this;exact .inl vM
  have vx:=run_append_grow (P:=P) w bt ty e i z hu hi hz ⟨g,0,none⟩ l.length cap (l.flatMap enc) gN.1.1 (gN.1.cells (g:=g) rfl) ad ys.length c (ys.flatMap enc) (hlen ys) hy (by omega) (by omega) (growslice_fits (by omega) hm)
  have:=hr.symm.trans vx;cases this;simp only[Value.ownBlock,Option.some.injEq]at vM;exact .inr (by omega)
end
end Go.Vc
end
section
namespace Cae
section
variable {has:ao->Int->Prop} {pts:List Int} {back:Bool}
theorem aF6 {x:aF}{l:List Nat}{n j:Nat}(hl:∀i∈l,i<=pts.length)(h:stM (dF has pts back x) l n j):j<=pts.length:=by
 obtain⟨i,hi,h⟩:=h;exact uZ (λa b ha hr=>lI x ha hr) (hl i hi) h
theorem ie {x:aF}{lo k N:Nat}{hi:Int}{from_ M:List Nat}(hM:∀j,j∈M↔j<=N/\∃s,s<=k/\stM (dF has pts back x) from_ (lo+s) j)(hk:hi<0\/((lo+k:Nat):Int)<=hi)
  (Fp:∀t j,(hi<0\/((lo+t:Nat):Int)<=hi)->stM (dF has pts back x) from_ (lo+t) j->∃s,s<=k/\stM (dF has pts back x) from_ (lo+s) j):∀j,j∈M↔j<=N/\∃i∈from_,dF has pts back (.many x (lo:Int) hi) i j:=λj=>by
 rw[hM j,Wn];refine and_congr Iff.rfl ?_;constructor
 ·rintro⟨s,hs,h⟩;exact⟨s,by rcases hk with hk|hk<;>omega,h⟩
 rintro⟨t,ht,h⟩;exact Fp t j ht h
end
theorem uz {l m:List Nat}(hl:l.Pairwise (·<·))(hm:m.Pairwise (·<·))(h:∀x∈l,x∈m):l.length<=m.length:=by
 have e:l=m.filter λx=>decide (x∈l):=uy hl (List.Pairwise.filter _ hm) λx=>by
  rw[List.mem_filter,decide_eq_true_iff];exact⟨λhx=>⟨h x hx,hx⟩,λhx=>hx.2⟩
 rw[e];exact List.length_filter_le _ _
end Cae
namespace Go.Proofs.YtledlfbbebodgaaGreatDoor
open Go.Vc Go.Proofs Go.RowKit Cae
attribute [local irreducible] dd ae ak a7 runK bE Sl Vc.Own vc aU cJ a8
theorem qV {N:Nat}{R:Nat->Nat->Prop}{from_ L:List Nat}{t:Nat}(h:∀j,j∈L↔j<=N/\stM R from_ t j)(hle:∀j,stM R from_ t j->j<=N):∀j,j∈jd N R L↔j<=N/\stM R from_ (t+1) j:=λj=>by
 rw[fr,mf];refine and_congr Iff.rfl ?_;constructor
 ·rintro⟨m,hm,h2⟩;exact⟨m,((h m).1 hm).2,h2⟩
 rintro⟨m,hm,h2⟩;exact⟨m,(h m).2 ⟨hle m hm,hm⟩,h2⟩
def Qy:Value->Nat
 | .slice _ n _=>n
 | _=>0
theorem uh {L m1 m2:List Nat}(h1:bH m1=((bH L).mergeSort λx y=>decide (x<=y)))(h2:bH m2=Lib.compact (bH m1)):m2.Pairwise (·<·)/\∀x,x∈m2↔x∈L:=by
 obtain⟨m,e,hp,kV⟩:=qx L;rw[<-h1,<-h2]at e;have e:=Dk e;subst e;exact⟨hp,kV⟩
theorem aFC (x:aF)(lo:Nat)(hi:Int)(hx:xz x)(bJ:aj x)(jE:wd x<=100000)(yn:lo<100)(Sz:hi<100)(hlh:hi<0\/(lo:Int)<=hi)(X:Nat->Prop)(w:World)(rb mb:Nat)(us:List U)(nm:bG)(back:Bool)(h:Mr X w rb mb us nm back)(v:Value)(hV:ai X w v (.many x lo hi))
  (fv:Value) (from_:List Nat) (hf:Sl (λ_=>False) 1 (En aY) w fv from_) (ha:Arg fv) (hr:from_.Pairwise (·<·)) (hle:∀i∈from_,i<=us.length) :
  bE Tryz.prog 72 [.pointer (some ⟨rb,0,none⟩),v,fv] w λr w'=>(∃M,Vc.Own w.heap.size 3 1 aY w' r M/\M.length<=1001/\∀j,j∈M↔j<=us.length/\∃i∈from_,dF (bD nm) (bC us) back (.many x lo hi) i j)/\Below w.heap.size w w':=by
 have hlen:=h.len;have si:=cI hr hle;have Li:=eU us;have sr:∀t j,stM (dF (bD nm) (bC us) back x) from_ t j->j<=us.length:=λt j hj=>by have:=aF6 (by rw[Li];exact hle) hj;rw[Li]at this;exact this
 simp only[ai]at hV;obtain⟨b,sv,u,rfl,hb,hB,hs,hV⟩:=hV;obtain⟨sa,sc,rfl,vz⟩:=hs.shape;obtain⟨b1,o,rfl,jh,aK⟩:=hs.get (i:=0) (x:=u) rfl;obtain⟨fa,fc,rfl,hfc⟩:=hf.shape;have d2:∀w',Below w.heap.size w w'->w'.cell? ⟨b,2,none⟩=some (.slice (some ⟨b1,o,none⟩) 1 sc):=λw' hb=>(hB.below hb hB.lt).cell rfl;have d3:∀w',Below w.heap.size w w'->w'.cell? ⟨b,3,none⟩=some (.int .i64 lo):=λw' hb=>(hB.below hb hB.lt).cell rfl;have d4:∀w',Below w.heap.size w w'->w'.cell? ⟨b,4,none⟩=some (.int .i64 hi):=λw' hb=>(hB.below hb hB.lt).cell rfl;have cx:∀w',Below w.heap.size w w'->w'.cell? ⟨b1,o,none⟩=some (.pointer (some ⟨u,0,none⟩)):=λw' hb=>(hb.cell (World.block_lt_of_cell? w _ (aK 0 _ rfl))).trans (by simpa[fB,bd] using aK 0 _ rfl);have hrf:=Below.refl w.heap.size w;refine aE Tryz.func72 rfl (by kernel_rfl) [6] rfl ?_;simp -dsimp (maxSteps:=4000000) only[push_cast,oy,Tryz.ntmps72,List.length_cons,List.length_nil,Nat.reduceAdd,Nat.reduceSub,Nat.reduceBEq,List.replicate_succ,List.replicate_zero];simp -dsimp only[push_cast,Nat.reduceAdd,Nat.reduceLeDiff,Nat.reduceBEq,Int.reduceNe,Int.reduceEq,Int.reduceLT,Int.reduceLE,d3 _ hrf]
 refine aL [7,8,17,18,19,20,21,22,23,24,25,26,27,28,29,30,31,32] (λz wx=>∃(t:Nat) (ov:Value) (L:List Nat),z 17=.int .i64 t/\z 7=ov/\t<=lo/\Sl (λ_=>False) 1 (En aY) wx ov L/\Arg ov/\L.Pairwise (·<·)/\(∀j,j∈L↔j<=us.length/\stM (dF (bD nm) (bC us) back x) from_ t j)/\Below w.heap.size w wx) (λz _=>lo-(intOf (z 17)).toNat) ?_ ?_
 ·refine⟨0,_,from_,rfl,rfl,Nat.zero_le _,hf,ha,hr,λj=>?_,Below.refl _ _⟩;constructor
  ·intro hj;exact⟨hle j hj,j,hj,rfl⟩
  rintro⟨_,i,hi,h2⟩;have h2:i=j:=h2;rw[<-h2];exact hi
 intro z wx hI;obtain⟨t,ov,L,h17,h7,ht,hL,haL,hrL,Dh,bT⟩:=hI;have zx:=bT.size;simp -dsimp only[push_cast,Nat.reduceAdd,Nat.reduceLeDiff,Nat.reduceBEq,Int.reduceNe,Int.reduceEq,Int.reduceLT,Int.reduceLE,h17,h7,d2 _ bT,cx _ bT];refine⟨λaw=>?_,λfT=>?_⟩
 ·refine⟨by omega,?_⟩;refine aA (hx bJ jE X wx rb mb us nm _ (h.below bT) _ (ai.below hV bT) ov L hL haL hrL (λj hj=>((Dh j).1 hj).1)) ?_;rintro r wy ⟨hO,iD⟩;have zy:=iD.size;have jc:=bT.trans (iD.mono zx);have HG:=cI (cG us.length (dF (bD nm) (bC us) back x) L) (λj hj=>(fr.1 hj).1);have GA:=qV Dh (sr t);simp -dsimp only[push_cast,Nat.reduceAdd,Nat.reduceLeDiff,Nat.reduceBEq,Int.reduceNe,Int.reduceEq,Int.reduceLT,Int.reduceLE];refine aA (AK (jd us.length (dF (bD nm) (bC us) back x) L) L (by omega) _ _ r ov wy hO.sl (hL.below iD)) ?_;rintro _ w4 ⟨rfl,kj⟩;by_cases heq:jd us.length (dF (bD nm) (bC us) back x) L=L
  ·rw[decide_eq_true heq];have WN:∀j,stM (dF (bD nm) (bC us) back x) from_ (t+1) j↔stM (dF (bD nm) (bC us) back x) from_ t j:=λj=>by
    have h1:=GA j;rw[heq,Dh j]at h1;constructor
    ·intro hh;exact(h1.2 ⟨sr _ j hh,hh⟩).2
    intro hh;exact(h1.1 ⟨sr _ j hh,hh⟩).2
   have hmR:∀j,j∈jd us.length (dF (bD nm) (bC us) back x) L↔j<=us.length/\stM (dF (bD nm) (bC us) back x) from_ lo j:=λj=>by
    rw[GA j,WN j]
    have:=Gn WN (lo-t) j;rw[show t+(lo-t)=lo by omega]at this
    rw[this]
   have j0:=jc.trans (kj.mono (by omega));have hS4:Sl (λ_=>False) 1 (En aY) w4 r (jd us.length (dF (bD nm) (bC us) back x) L):=(hO.sl.weaken (λ_ h=>h.elim)).below kj;simp -dsimp only[push_cast,Nat.reduceAdd,Nat.reduceLeDiff,Nat.reduceBEq,Int.reduceNe,Int.reduceEq,Int.reduceLT,Int.reduceLE];have hbR:=j0;have zR:=hbR.size;have hlR:=cI (cG _ _ _) (λj hj=>((hmR j).1 hj).1);refine aA (kL (jd us.length (dF (bD nm) (bC us) back x) L) (by omega) (λ_=>False) r (w4) hS4 hO.dR) ?_;rintro vo wo ⟨hOo,hbo⟩;have zo:=hbo.size;have Vo:=hbR.trans (hbo.mono zR);simp -dsimp only[push_cast,Nat.reduceAdd,Nat.reduceLeDiff,Nat.reduceBEq,Int.reduceNe,Int.reduceEq,Int.reduceLT,Int.reduceLE,d3 _ Vo]
   refine aL [7,9,10,11,39,40,41,42,43,44,45,46,47,48,49,50,51,52,53,54,55,56,57,58,59,60,61,62,63,64,65,66,67,68,69,70,71,72,73,74,75,76,77,78,79,80,81,82,83,84,85,86,87] (λz wx=>∃(k:Nat) (nv:Value) (N1:List Nat) (ov:Value) (M:List Nat),z 10=.int .i64 ((lo+k:Nat):Int)/\z 7=nv/\z 9=ov/\Sl (λ_=>False) 1 (En aY) wx nv N1/\Arg nv/\N1.Pairwise (·<·)/\(∀j,j∈N1↔j<=us.length/\stM (dF (bD nm) (bC us) back x) from_ (lo+k) j)/\Vc.Own w.heap.size 3 1 aY wx ov M/\M.Pairwise (·<·)/\(∀j,j∈M↔j<=us.length/\∃s,s<=k/\stM (dF (bD nm) (bC us) back x) from_ (lo+s) j)/\(hi<0\/((lo+k:Nat):Int)<=hi)/\(hi<0->k<=M.length)/\Below w.heap.size w wx) (λz _=>if hi<0 then us.length+2-Qy (z 9) else (hi-intOf (z 10)).toNat) ?_ ?_
   ·refine⟨0,_,(jd us.length (dF (bD nm) (bC us) back x) L),_,(jd us.length (dF (bD nm) (bC us) back x) L),rfl,rfl,rfl,(hS4).below hbo,hO.dR,(cG _ _ _),hmR,hOo.mono zR,(cG _ _ _),λj=>?_,hlh,λ_=>Nat.zero_le _,Vo⟩;rw[hmR j];refine and_congr Iff.rfl ?_;constructor
    ·intro hh;exact⟨0,Nat.le_refl _,hh⟩
    rintro⟨s,hs,hh⟩;have:s=0:=by omega
    subst this;exact hh
   intro z wx hI;obtain⟨k,nv,N1,ov,M,vK,h7,h9,hN1,haN,hrN,Lg,hO,WL,Fz,ym,hkM,bT⟩:=hI;have zx:=bT.size;have hlN:=cI hrN (λj hj=>((Lg j).1 hj).1);have hlM:=cI WL (λj hj=>((Fz j).1 hj).1);have eW:=hN1.shape;obtain⟨na,nc,rfl,_⟩:=eW;have eW:=hO.slice;obtain⟨oa,oc,rfl⟩:=eW;simp -dsimp only[push_cast,Nat.reduceAdd,Nat.reduceLeDiff,Nat.reduceBEq,Int.reduceNe,Int.reduceEq,Int.reduceLT,Int.reduceLE,vK,h7,h9,d4 _ bT,d2 _ bT,cx _ bT];refine⟨λuN=>⟨λQ0=>⟨λpC=>⟨by omega,?_⟩,λhz=>?_⟩,λVy=>?_⟩,λuN=>⟨λpC=>⟨by omega,?_⟩,λhz=>?_⟩⟩
   ·skip;refine aA (hx bJ jE X wx rb mb us nm _ (h.below bT) _ (ai.below hV bT) _ N1 hN1 haN hrN (λj hj=>((Lg j).1 hj).1)) ?_;rintro r wy ⟨fJ,iD⟩;have zy:=iD.size;have jc:=bT.trans (iD.mono zx);have aEL:=cI (cG us.length (dF (bD nm) (bC us) back x) N1) (λj hj=>(fr.1 hj).1);have GA:=qV Lg (sr (lo+k));have Cm:Arg r:=fJ.dR;have uE:=hO.below iD;simp -dsimp only[push_cast,Nat.reduceAdd,Nat.reduceLeDiff,Nat.reduceBEq,Int.reduceNe,Int.reduceEq,Int.reduceLT,Int.reduceLE];refine oh (base:=w.heap.size) (enc:=aY) (ys:=jd us.length (dF (bD nm) (bC us) back x) N1) bA uE (fJ.sl) Cm (by simp[aY,Value.oneCell']) (by omega) (by omega) ?_;intro v5 w5 ja yO ng xP;have z5:=ng.size;have vg:=jc.trans (ng.mono (by omega));have Yk:(M++jd us.length (dF (bD nm) (bC us) back x) N1).length<=3000:=by rw[List.length_append];omega
    simp -dsimp only[push_cast,Nat.reduceAdd,Nat.reduceLeDiff,Nat.reduceBEq,Int.reduceNe,Int.reduceEq,Int.reduceLT,Int.reduceLE];refine aA (kF _ (by omega) _ v5 w5 ja) ?_;rintro _ w6 ⟨⟨m1,jC,se⟩,xN⟩;have z6:=xN.size;have aEC:=kA jC;simp -dsimp only[push_cast,Nat.reduceAdd,Nat.reduceLeDiff,Nat.reduceBEq,Int.reduceNe,Int.reduceEq,Int.reduceLT,Int.reduceLE];refine aA (fX m1 (by omega) _ v5 w6 se) ?_;rintro v7 w7 ⟨⟨m2,dG,uD,uQ⟩,mP⟩;have z7:=mP.size;obtain⟨mR,A0⟩:=uh jC dG;have jL:Below w.heap.size w w7:=vg.trans ((xN.below (by omega) (λi h=>(ja.block i h).1)).trans (mP.below (by omega) (λi h=>(ja.block i h).1)));have L3:=fJ.aI (Kept.grown yO (X:=λj=>(Value.slice oa M.length oc).ownBlock=some j) (λ_ h=>h)) (λg hg hh=>by have:=fJ.block g hg;have:=hO.block g hh;omega);have A3:∀g,r.ownBlock=some g->v5.ownBlock≠some g:=λg hg hh=>by
     have h1:=fJ.block g hg;rcases xP g hh with h2|h2
     ·have:=hO.block g h2;omega
     omega
    have L4:=(L3.aI xN (λg hg hh=>A3 g hg hh)).aI mP (λg hg hh=>A3 g hg hh);have VU:Sl (λ_=>False) 1 (En aY) w7 r (jd us.length (dF (bD nm) (bC us) back x) N1):=L4.sl.weaken (λ_ h=>h.elim);have mQ:∀j,j∈m2↔j<=us.length/\∃s,s<=k+1/\stM (dF (bD nm) (bC us) back x) from_ (lo+s) j:=λj=>by
     rw[A0,List.mem_append,Fz j,GA j];constructor
     ·rintro(⟨h1,s,h2,h3⟩|⟨h1,h2⟩)
      ·exact⟨h1,s,by omega,h3⟩
      exact⟨h1,k+1,Nat.le_refl _,h2⟩
     rintro⟨h1,s,h2,h3⟩;by_cases hs:s=k+1
     ·subst hs;exact .inr ⟨h1,h3⟩
     exact .inl ⟨h1,s,by omega,h3⟩
    have Aa:∀y∈M,y∈m2:=λy hy=>(A0 y).2 (List.mem_append_left _ hy);have WC:=uz WL mR Aa;have mn:=cI mR (λj hj=>((mQ j).1 hj).1);have eW:=uD.slice;obtain⟨o7,c7,rfl⟩:=eW;simp -dsimp only[push_cast,Nat.reduceAdd,Nat.reduceLeDiff,Nat.reduceBEq,Int.reduceNe,Int.reduceEq,Int.reduceLT,Int.reduceLE,d4 _ jL];have Af:(Value.int .i64 ((lo:Int)+k+1))=.int .i64 ((lo+(k+1):Nat):Int):=by
     congr 1
    refine⟨λgm=>⟨λqS=>?_,λQ7=>⟨⟨by omega,by have:=hkM gm;omega⟩,?_,?_⟩⟩,λIr=>⟨⟨by omega,by omega⟩,?_,?_⟩⟩
    ·have heq:=rY WL mR Aa (by omega);refine⟨⟨m2,uD,by omega,ie mQ (.inl gm) λt j ht ba=>?_⟩,jL⟩
     have:=qz (a:=lo) (k:=k) (λj hj=>by
      have h1:j∈m2:=(mQ j).2 ⟨sr _ j hj,k+1,Nat.le_refl _,hj⟩;rw[<-heq]at h1;exact((Fz j).1 h1).2) t j ba
     obtain⟨s,hs,h2⟩:=this;exact⟨s,by omega,h2⟩
    ·exact⟨k+1,_,_,_,m2,Af,rfl,rfl,VU,Cm,cG _ _ _,GA,uD,mR,mQ,.inl gm,(λ_=>by have:=hkM gm;omega),jL⟩
    ·rw[h9,vK];simp only[if_pos gm,Qy];omega
    ·exact⟨k+1,_,_,_,m2,Af,rfl,rfl,VU,Cm,cG _ _ _,GA,uD,mR,mQ,.inr (by omega),(λhh=>absurd hh Ir),jL⟩
    rw[h9,vK];simp only[if_neg Ir,intOf];omega
   ·skip;refine⟨⟨M,hO,by omega,ie Fz ym λt j ht ba=>?_⟩,bT⟩;by_cases HJ:t<k
    ·exact⟨t,by omega,ba⟩
    have eZ:∀j,¬stM (dF (bD nm) (bC us) back x) from_ (lo+k) j:=λj hj=>by
     have hm:=(Lg j).2 ⟨sr _ j hj,hj⟩;have:N1=[]:=List.eq_nil_of_length_eq_zero (by omega);rw[this]at hm;cases hm
    have:=rA eZ (t-k) j;rw[show lo+k+(t-k)=lo+t by omega]at this
    exact absurd ba this
   ·refine⟨⟨M,hO,by omega,ie Fz ym λt j ht ba=>?_⟩,bT⟩;rcases ht with ht|ht
    ·omega
    exact⟨t,by omega,ba⟩
   ·skip;refine aA (hx bJ jE X wx rb mb us nm _ (h.below bT) _ (ai.below hV bT) _ N1 hN1 haN hrN (λj hj=>((Lg j).1 hj).1)) ?_;rintro r wy ⟨fJ,iD⟩;have zy:=iD.size;have jc:=bT.trans (iD.mono zx);have aEL:=cI (cG us.length (dF (bD nm) (bC us) back x) N1) (λj hj=>(fr.1 hj).1);have GA:=qV Lg (sr (lo+k));have Cm:Arg r:=fJ.dR;have uE:=hO.below iD;simp -dsimp only[push_cast,Nat.reduceAdd,Nat.reduceLeDiff,Nat.reduceBEq,Int.reduceNe,Int.reduceEq,Int.reduceLT,Int.reduceLE];refine oh (base:=w.heap.size) (enc:=aY) (ys:=jd us.length (dF (bD nm) (bC us) back x) N1) bA uE (fJ.sl) Cm (by simp[aY,Value.oneCell']) (by omega) (by omega) ?_;intro v5 w5 ja yO ng xP;have z5:=ng.size;have vg:=jc.trans (ng.mono (by omega));have Yk:(M++jd us.length (dF (bD nm) (bC us) back x) N1).length<=3000:=by rw[List.length_append];omega
    simp -dsimp only[push_cast,Nat.reduceAdd,Nat.reduceLeDiff,Nat.reduceBEq,Int.reduceNe,Int.reduceEq,Int.reduceLT,Int.reduceLE];refine aA (kF _ (by omega) _ v5 w5 ja) ?_;rintro _ w6 ⟨⟨m1,jC,se⟩,xN⟩;have z6:=xN.size;have aEC:=kA jC;simp -dsimp only[push_cast,Nat.reduceAdd,Nat.reduceLeDiff,Nat.reduceBEq,Int.reduceNe,Int.reduceEq,Int.reduceLT,Int.reduceLE];refine aA (fX m1 (by omega) _ v5 w6 se) ?_;rintro v7 w7 ⟨⟨m2,dG,uD,uQ⟩,mP⟩;have z7:=mP.size;obtain⟨mR,A0⟩:=uh jC dG;have jL:Below w.heap.size w w7:=vg.trans ((xN.below (by omega) (λi h=>(ja.block i h).1)).trans (mP.below (by omega) (λi h=>(ja.block i h).1)));have L3:=fJ.aI (Kept.grown yO (X:=λj=>(Value.slice oa M.length oc).ownBlock=some j) (λ_ h=>h)) (λg hg hh=>by have:=fJ.block g hg;have:=hO.block g hh;omega);have A3:∀g,r.ownBlock=some g->v5.ownBlock≠some g:=λg hg hh=>by
     have h1:=fJ.block g hg;rcases xP g hh with h2|h2
     ·have:=hO.block g h2;omega
     omega
    have L4:=(L3.aI xN (λg hg hh=>A3 g hg hh)).aI mP (λg hg hh=>A3 g hg hh);have VU:Sl (λ_=>False) 1 (En aY) w7 r (jd us.length (dF (bD nm) (bC us) back x) N1):=L4.sl.weaken (λ_ h=>h.elim);have mQ:∀j,j∈m2↔j<=us.length/\∃s,s<=k+1/\stM (dF (bD nm) (bC us) back x) from_ (lo+s) j:=λj=>by
     rw[A0,List.mem_append,Fz j,GA j];constructor
     ·rintro(⟨h1,s,h2,h3⟩|⟨h1,h2⟩)
      ·exact⟨h1,s,by omega,h3⟩
      exact⟨h1,k+1,Nat.le_refl _,h2⟩
     rintro⟨h1,s,h2,h3⟩;by_cases hs:s=k+1
     ·subst hs;exact .inr ⟨h1,h3⟩
     exact .inl ⟨h1,s,by omega,h3⟩
    have Aa:∀y∈M,y∈m2:=λy hy=>(A0 y).2 (List.mem_append_left _ hy);have WC:=uz WL mR Aa;have mn:=cI mR (λj hj=>((mQ j).1 hj).1);have eW:=uD.slice;obtain⟨o7,c7,rfl⟩:=eW;simp -dsimp only[push_cast,Nat.reduceAdd,Nat.reduceLeDiff,Nat.reduceBEq,Int.reduceNe,Int.reduceEq,Int.reduceLT,Int.reduceLE,d4 _ jL];have Af:(Value.int .i64 ((lo:Int)+k+1))=.int .i64 ((lo+(k+1):Nat):Int):=by
     congr 1
    refine⟨λgm=>⟨λqS=>?_,λQ7=>⟨⟨by omega,by have:=hkM gm;omega⟩,?_,?_⟩⟩,λIr=>⟨⟨by omega,by omega⟩,?_,?_⟩⟩
    ·have heq:=rY WL mR Aa (by omega);refine⟨⟨m2,uD,by omega,ie mQ (.inl gm) λt j ht ba=>?_⟩,jL⟩
     have:=qz (a:=lo) (k:=k) (λj hj=>by
      have h1:j∈m2:=(mQ j).2 ⟨sr _ j hj,k+1,Nat.le_refl _,hj⟩;rw[<-heq]at h1;exact((Fz j).1 h1).2) t j ba
     obtain⟨s,hs,h2⟩:=this;exact⟨s,by omega,h2⟩
    ·exact⟨k+1,_,_,_,m2,Af,rfl,rfl,VU,Cm,cG _ _ _,GA,uD,mR,mQ,.inl gm,(λ_=>by have:=hkM gm;omega),jL⟩
    ·rw[h9,vK];simp only[if_pos gm,Qy];omega
    ·exact⟨k+1,_,_,_,m2,Af,rfl,rfl,VU,Cm,cG _ _ _,GA,uD,mR,mQ,.inr (by omega),(λhh=>absurd hh Ir),jL⟩
    rw[h9,vK];simp only[if_neg Ir,intOf];omega
   skip;refine⟨⟨M,hO,by omega,ie Fz ym λt j ht ba=>?_⟩,bT⟩;by_cases HJ:t<k
   ·exact⟨t,by omega,ba⟩
   have eZ:∀j,¬stM (dF (bD nm) (bC us) back x) from_ (lo+k) j:=λj hj=>by
    have hm:=(Lg j).2 ⟨sr _ j hj,hj⟩;have:N1=[]:=List.eq_nil_of_length_eq_zero (by omega);rw[this]at hm;cases hm
   have:=rA eZ (t-k) j;rw[show lo+k+(t-k)=lo+t by omega]at this
   exact absurd ba this
  rw[decide_eq_false heq];simp -dsimp only[push_cast,Nat.reduceAdd,Nat.reduceLeDiff,Nat.reduceBEq,Int.reduceNe,Int.reduceEq,Int.reduceLT,Int.reduceLE];exact⟨⟨by omega,by omega⟩,⟨t+1,_,_,rfl,rfl,by omega,(hO.sl.weaken (λ_ h=>h.elim)).below kj,hO.dR,cG _ _ _,GA,jc.trans (kj.mono (by omega))⟩,by rw[h17];simp only[intOf];omega⟩
 have Kf:t=lo:=by omega
 rw[Kf]at Dh;have hbR:=bT;have zR:=hbR.size;have hlR:=cI hrL (λj hj=>((Dh j).1 hj).1);refine aA (kL L (by omega) (λ_=>False) ov (wx) hL haL) ?_;rintro vo wo ⟨hOo,hbo⟩;have zo:=hbo.size;have Vo:=hbR.trans (hbo.mono zR);simp -dsimp only[push_cast,Nat.reduceAdd,Nat.reduceLeDiff,Nat.reduceBEq,Int.reduceNe,Int.reduceEq,Int.reduceLT,Int.reduceLE,d3 _ Vo];refine aL [7,9,10,11,39,40,41,42,43,44,45,46,47,48,49,50,51,52,53,54,55,56,57,58,59,60,61,62,63,64,65,66,67,68,69,70,71,72,73,74,75,76,77,78,79,80,81,82,83,84,85,86,87] (λz wx=>∃(k:Nat) (nv:Value) (N1:List Nat) (ov:Value) (M:List Nat),z 10=.int .i64 ((lo+k:Nat):Int)/\z 7=nv/\z 9=ov/\Sl (λ_=>False) 1 (En aY) wx nv N1/\Arg nv/\N1.Pairwise (·<·)/\(∀j,j∈N1↔j<=us.length/\stM (dF (bD nm) (bC us) back x) from_ (lo+k) j)/\Vc.Own w.heap.size 3 1 aY wx ov M/\M.Pairwise (·<·)/\(∀j,j∈M↔j<=us.length/\∃s,s<=k/\stM (dF (bD nm) (bC us) back x) from_ (lo+s) j)/\(hi<0\/((lo+k:Nat):Int)<=hi)/\(hi<0->k<=M.length)/\Below w.heap.size w wx) (λz _=>if hi<0 then us.length+2-Qy (z 9) else (hi-intOf (z 10)).toNat) ?_ ?_
 ·refine⟨0,_,L,_,L,rfl,rfl,rfl,(hL).below hbo,haL,hrL,Dh,hOo.mono zR,hrL,λj=>?_,hlh,λ_=>Nat.zero_le _,Vo⟩;rw[Dh j];refine and_congr Iff.rfl ?_;constructor
  ·intro hh;exact⟨0,Nat.le_refl _,hh⟩
  rintro⟨s,hs,hh⟩;have:s=0:=by omega
  subst this;exact hh
 intro z wx hI;obtain⟨k,nv,N1,ov,M,vK,h7,h9,hN1,haN,hrN,Lg,hO,WL,Fz,ym,hkM,bT⟩:=hI;have zx:=bT.size;have hlN:=cI hrN (λj hj=>((Lg j).1 hj).1);have hlM:=cI WL (λj hj=>((Fz j).1 hj).1);have eW:=hN1.shape;obtain⟨na,nc,rfl,_⟩:=eW;have eW:=hO.slice;obtain⟨oa,oc,rfl⟩:=eW;simp -dsimp only[push_cast,Nat.reduceAdd,Nat.reduceLeDiff,Nat.reduceBEq,Int.reduceNe,Int.reduceEq,Int.reduceLT,Int.reduceLE,vK,h7,h9,d4 _ bT,d2 _ bT,cx _ bT];refine⟨λuN=>⟨λQ0=>⟨λpC=>⟨by omega,?_⟩,λhz=>?_⟩,λVy=>?_⟩,λuN=>⟨λpC=>⟨by omega,?_⟩,λhz=>?_⟩⟩
 ·skip;refine aA (hx bJ jE X wx rb mb us nm _ (h.below bT) _ (ai.below hV bT) _ N1 hN1 haN hrN (λj hj=>((Lg j).1 hj).1)) ?_;rintro r wy ⟨fJ,iD⟩;have zy:=iD.size;have jc:=bT.trans (iD.mono zx);have aEL:=cI (cG us.length (dF (bD nm) (bC us) back x) N1) (λj hj=>(fr.1 hj).1);have GA:=qV Lg (sr (lo+k));have Cm:Arg r:=fJ.dR;have uE:=hO.below iD;simp -dsimp only[push_cast,Nat.reduceAdd,Nat.reduceLeDiff,Nat.reduceBEq,Int.reduceNe,Int.reduceEq,Int.reduceLT,Int.reduceLE];refine oh (base:=w.heap.size) (enc:=aY) (ys:=jd us.length (dF (bD nm) (bC us) back x) N1) bA uE (fJ.sl) Cm (by simp[aY,Value.oneCell']) (by omega) (by omega) ?_;intro v5 w5 ja yO ng xP;have z5:=ng.size;have vg:=jc.trans (ng.mono (by omega));have Yk:(M++jd us.length (dF (bD nm) (bC us) back x) N1).length<=3000:=by rw[List.length_append];omega
  simp -dsimp only[push_cast,Nat.reduceAdd,Nat.reduceLeDiff,Nat.reduceBEq,Int.reduceNe,Int.reduceEq,Int.reduceLT,Int.reduceLE];refine aA (kF _ (by omega) _ v5 w5 ja) ?_;rintro _ w6 ⟨⟨m1,jC,se⟩,xN⟩;have z6:=xN.size;have aEC:=kA jC;simp -dsimp only[push_cast,Nat.reduceAdd,Nat.reduceLeDiff,Nat.reduceBEq,Int.reduceNe,Int.reduceEq,Int.reduceLT,Int.reduceLE];refine aA (fX m1 (by omega) _ v5 w6 se) ?_;rintro v7 w7 ⟨⟨m2,dG,uD,uQ⟩,mP⟩;have z7:=mP.size;obtain⟨mR,A0⟩:=uh jC dG;have jL:Below w.heap.size w w7:=vg.trans ((xN.below (by omega) (λi h=>(ja.block i h).1)).trans (mP.below (by omega) (λi h=>(ja.block i h).1)));have L3:=fJ.aI (Kept.grown yO (X:=λj=>(Value.slice oa M.length oc).ownBlock=some j) (λ_ h=>h)) (λg hg hh=>by have:=fJ.block g hg;have:=hO.block g hh;omega);have A3:∀g,r.ownBlock=some g->v5.ownBlock≠some g:=λg hg hh=>by
   have h1:=fJ.block g hg;rcases xP g hh with h2|h2
   ·have:=hO.block g h2;omega
   omega
  have L4:=(L3.aI xN (λg hg hh=>A3 g hg hh)).aI mP (λg hg hh=>A3 g hg hh);have VU:Sl (λ_=>False) 1 (En aY) w7 r (jd us.length (dF (bD nm) (bC us) back x) N1):=L4.sl.weaken (λ_ h=>h.elim);have mQ:∀j,j∈m2↔j<=us.length/\∃s,s<=k+1/\stM (dF (bD nm) (bC us) back x) from_ (lo+s) j:=λj=>by
   rw[A0,List.mem_append,Fz j,GA j];constructor
   ·rintro(⟨h1,s,h2,h3⟩|⟨h1,h2⟩)
    ·exact⟨h1,s,by omega,h3⟩
    exact⟨h1,k+1,Nat.le_refl _,h2⟩
   rintro⟨h1,s,h2,h3⟩;by_cases hs:s=k+1
   ·subst hs;exact .inr ⟨h1,h3⟩
   exact .inl ⟨h1,s,by omega,h3⟩
  have Aa:∀y∈M,y∈m2:=λy hy=>(A0 y).2 (List.mem_append_left _ hy);have WC:=uz WL mR Aa;have mn:=cI mR (λj hj=>((mQ j).1 hj).1);have eW:=uD.slice;obtain⟨o7,c7,rfl⟩:=eW;simp -dsimp only[push_cast,Nat.reduceAdd,Nat.reduceLeDiff,Nat.reduceBEq,Int.reduceNe,Int.reduceEq,Int.reduceLT,Int.reduceLE,d4 _ jL];have Af:(Value.int .i64 ((lo:Int)+k+1))=.int .i64 ((lo+(k+1):Nat):Int):=by
   congr 1
  refine⟨λgm=>⟨λqS=>?_,λQ7=>⟨⟨by omega,by have:=hkM gm;omega⟩,?_,?_⟩⟩,λIr=>⟨⟨by omega,by omega⟩,?_,?_⟩⟩
  ·have heq:=rY WL mR Aa (by omega);refine⟨⟨m2,uD,by omega,ie mQ (.inl gm) λt j ht ba=>?_⟩,jL⟩
   have:=qz (a:=lo) (k:=k) (λj hj=>by
    have h1:j∈m2:=(mQ j).2 ⟨sr _ j hj,k+1,Nat.le_refl _,hj⟩;rw[<-heq]at h1;exact((Fz j).1 h1).2) t j ba
   obtain⟨s,hs,h2⟩:=this;exact⟨s,by omega,h2⟩
  ·exact⟨k+1,_,_,_,m2,Af,rfl,rfl,VU,Cm,cG _ _ _,GA,uD,mR,mQ,.inl gm,(λ_=>by have:=hkM gm;omega),jL⟩
  ·rw[h9,vK];simp only[if_pos gm,Qy];omega
  ·exact⟨k+1,_,_,_,m2,Af,rfl,rfl,VU,Cm,cG _ _ _,GA,uD,mR,mQ,.inr (by omega),(λhh=>absurd hh Ir),jL⟩
  rw[h9,vK];simp only[if_neg Ir,intOf];omega
 ·skip;refine⟨⟨M,hO,by omega,ie Fz ym λt j ht ba=>?_⟩,bT⟩;by_cases HJ:t<k
  ·exact⟨t,by omega,ba⟩
  have eZ:∀j,¬stM (dF (bD nm) (bC us) back x) from_ (lo+k) j:=λj hj=>by
   have hm:=(Lg j).2 ⟨sr _ j hj,hj⟩;have:N1=[]:=List.eq_nil_of_length_eq_zero (by omega);rw[this]at hm;cases hm
  have:=rA eZ (t-k) j;rw[show lo+k+(t-k)=lo+t by omega]at this
  exact absurd ba this
 ·refine⟨⟨M,hO,by omega,ie Fz ym λt j ht ba=>?_⟩,bT⟩;rcases ht with ht|ht
  ·omega
  exact⟨t,by omega,ba⟩
 ·skip;refine aA (hx bJ jE X wx rb mb us nm _ (h.below bT) _ (ai.below hV bT) _ N1 hN1 haN hrN (λj hj=>((Lg j).1 hj).1)) ?_;rintro r wy ⟨fJ,iD⟩;have zy:=iD.size;have jc:=bT.trans (iD.mono zx);have aEL:=cI (cG us.length (dF (bD nm) (bC us) back x) N1) (λj hj=>(fr.1 hj).1);have GA:=qV Lg (sr (lo+k));have Cm:Arg r:=fJ.dR;have uE:=hO.below iD;simp -dsimp only[push_cast,Nat.reduceAdd,Nat.reduceLeDiff,Nat.reduceBEq,Int.reduceNe,Int.reduceEq,Int.reduceLT,Int.reduceLE];refine oh (base:=w.heap.size) (enc:=aY) (ys:=jd us.length (dF (bD nm) (bC us) back x) N1) bA uE (fJ.sl) Cm (by simp[aY,Value.oneCell']) (by omega) (by omega) ?_;intro v5 w5 ja yO ng xP;have z5:=ng.size;have vg:=jc.trans (ng.mono (by omega));have Yk:(M++jd us.length (dF (bD nm) (bC us) back x) N1).length<=3000:=by rw[List.length_append];omega
  simp -dsimp only[push_cast,Nat.reduceAdd,Nat.reduceLeDiff,Nat.reduceBEq,Int.reduceNe,Int.reduceEq,Int.reduceLT,Int.reduceLE];refine aA (kF _ (by omega) _ v5 w5 ja) ?_;rintro _ w6 ⟨⟨m1,jC,se⟩,xN⟩;have z6:=xN.size;have aEC:=kA jC;simp -dsimp only[push_cast,Nat.reduceAdd,Nat.reduceLeDiff,Nat.reduceBEq,Int.reduceNe,Int.reduceEq,Int.reduceLT,Int.reduceLE];refine aA (fX m1 (by omega) _ v5 w6 se) ?_;rintro v7 w7 ⟨⟨m2,dG,uD,uQ⟩,mP⟩;have z7:=mP.size;obtain⟨mR,A0⟩:=uh jC dG;have jL:Below w.heap.size w w7:=vg.trans ((xN.below (by omega) (λi h=>(ja.block i h).1)).trans (mP.below (by omega) (λi h=>(ja.block i h).1)));have L3:=fJ.aI (Kept.grown yO (X:=λj=>(Value.slice oa M.length oc).ownBlock=some j) (λ_ h=>h)) (λg hg hh=>by have:=fJ.block g hg;have:=hO.block g hh;omega);have A3:∀g,r.ownBlock=some g->v5.ownBlock≠some g:=λg hg hh=>by
   have h1:=fJ.block g hg;rcases xP g hh with h2|h2
   ·have:=hO.block g h2;omega
   omega
  have L4:=(L3.aI xN (λg hg hh=>A3 g hg hh)).aI mP (λg hg hh=>A3 g hg hh);have VU:Sl (λ_=>False) 1 (En aY) w7 r (jd us.length (dF (bD nm) (bC us) back x) N1):=L4.sl.weaken (λ_ h=>h.elim);have mQ:∀j,j∈m2↔j<=us.length/\∃s,s<=k+1/\stM (dF (bD nm) (bC us) back x) from_ (lo+s) j:=λj=>by
   rw[A0,List.mem_append,Fz j,GA j];constructor
   ·rintro(⟨h1,s,h2,h3⟩|⟨h1,h2⟩)
    ·exact⟨h1,s,by omega,h3⟩
    exact⟨h1,k+1,Nat.le_refl _,h2⟩
   rintro⟨h1,s,h2,h3⟩;by_cases hs:s=k+1
   ·subst hs;exact .inr ⟨h1,h3⟩
   exact .inl ⟨h1,s,by omega,h3⟩
  have Aa:∀y∈M,y∈m2:=λy hy=>(A0 y).2 (List.mem_append_left _ hy);have WC:=uz WL mR Aa;have mn:=cI mR (λj hj=>((mQ j).1 hj).1);have eW:=uD.slice;obtain⟨o7,c7,rfl⟩:=eW;simp -dsimp only[push_cast,Nat.reduceAdd,Nat.reduceLeDiff,Nat.reduceBEq,Int.reduceNe,Int.reduceEq,Int.reduceLT,Int.reduceLE,d4 _ jL];have Af:(Value.int .i64 ((lo:Int)+k+1))=.int .i64 ((lo+(k+1):Nat):Int):=by
   congr 1
  refine⟨λgm=>⟨λqS=>?_,λQ7=>⟨⟨by omega,by have:=hkM gm;omega⟩,?_,?_⟩⟩,λIr=>⟨⟨by omega,by omega⟩,?_,?_⟩⟩
  ·have heq:=rY WL mR Aa (by omega);refine⟨⟨m2,uD,by omega,ie mQ (.inl gm) λt j ht ba=>?_⟩,jL⟩
   have:=qz (a:=lo) (k:=k) (λj hj=>by
    have h1:j∈m2:=(mQ j).2 ⟨sr _ j hj,k+1,Nat.le_refl _,hj⟩;rw[<-heq]at h1;exact((Fz j).1 h1).2) t j ba
   obtain⟨s,hs,h2⟩:=this;exact⟨s,by omega,h2⟩
  ·exact⟨k+1,_,_,_,m2,Af,rfl,rfl,VU,Cm,cG _ _ _,GA,uD,mR,mQ,.inl gm,(λ_=>by have:=hkM gm;omega),jL⟩
  ·rw[h9,vK];simp only[if_pos gm,Qy];omega
  ·exact⟨k+1,_,_,_,m2,Af,rfl,rfl,VU,Cm,cG _ _ _,GA,uD,mR,mQ,.inr (by omega),(λhh=>absurd hh Ir),jL⟩
  rw[h9,vK];simp only[if_neg Ir,intOf];omega
 skip;refine⟨⟨M,hO,by omega,ie Fz ym λt j ht ba=>?_⟩,bT⟩;by_cases HJ:t<k
 ·exact⟨t,by omega,ba⟩
 have eZ:∀j,¬stM (dF (bD nm) (bC us) back x) from_ (lo+k) j:=λj hj=>by
  have hm:=(Lg j).2 ⟨sr _ j hj,hj⟩;have:N1=[]:=List.eq_nil_of_length_eq_zero (by omega);rw[this]at hm;cases hm
 have:=rA eZ (t-k) j;rw[show lo+k+(t-k)=lo+t by omega]at this
 exact absurd ba this
theorem TY (x:aF)(lo hi:Int)(hx:xz x):xz (.many x lo hi):=by
 intro bJ jE X w rb mb us nm back h v hV fv from_ hf ha hr hle;have hlen:=h.len;have si:=cI hr hle;have hpm:=tP (x:=x) (lo:=lo) (hi:=hi);simp only[aj]at bJ;obtain⟨It,h0,h1,h2,h3⟩:=bJ;obtain⟨l,rfl⟩:∃l:Nat,lo=l:=⟨lo.toNat,by omega⟩;have N0:=hV;simp only[ai]at hV;obtain⟨b,sv,u,rfl,hb,hB,hs,hV⟩:=hV;obtain⟨fa,fc,rfl,hfc⟩:=hf.shape;have d0:w.cell? ⟨b,0,none⟩=some (.int .i64 6):=hB.cell rfl;refine aE Tryz.func46 rfl (by kernel_rfl) [6] rfl ?_;simp -dsimp (maxSteps:=4000000) only[push_cast,oy,Tryz.ntmps46,List.length_cons,List.length_nil,Nat.reduceAdd,Nat.reduceSub,Nat.reduceBEq,List.replicate_succ,List.replicate_zero];simp -dsimp only[push_cast,Nat.reduceAdd,Nat.reduceLeDiff,Nat.reduceBEq,Int.reduceNe,Int.reduceEq,Int.reduceLT,Int.reduceLE,d0];refine aA (aFC x l hi hx It (by omega) (by omega) h2 h3 X w rb mb us nm back h _ N0 _ from_ hf ha hr hle) ?_;rintro r wx ⟨⟨M,hO,hlM,Fz⟩,bT⟩;simp -dsimp only[push_cast,Nat.reduceAdd,Nat.reduceLeDiff,Nat.reduceBEq,Int.reduceNe,Int.reduceEq,Int.reduceLT,Int.reduceLE];have xK:=bT;have zF:=xK.size;refine aA (kL M (by omega) (λ_=>False) _ (wx) (hO.sl.weaken (λ_ h=>h.elim)) hO.dR) ?_;rintro vc wc ⟨vw,mm⟩;have zc:=mm.size;simp -dsimp only[push_cast,Nat.reduceAdd,Nat.reduceLeDiff,Nat.reduceBEq,Int.reduceNe,Int.reduceEq,Int.reduceLT,Int.reduceLE];refine aA (kF M (by omega) _ vc wc vw) ?_;rintro _ wd ⟨⟨m1,jC,GB⟩,Cx⟩;have zd:=Cx.size;have si:=kA jC
 simp -dsimp only[push_cast,Nat.reduceAdd,Nat.reduceLeDiff,Nat.reduceBEq,Int.reduceNe,Int.reduceEq,Int.reduceLT,Int.reduceLE];refine aA (fX m1 (by omega) _ vc wd GB) ?_;rintro vr we ⟨⟨m2,dG,sD,uQ⟩,eN⟩;have Vw:=vX jC dG Fz;subst Vw;simp -dsimp only[push_cast,Nat.reduceAdd,Nat.reduceLeDiff,Nat.reduceBEq,Int.reduceNe,Int.reduceEq,Int.reduceLT,Int.reduceLE];exact⟨sD.mono zF,xK.trans ((mm.mono zF).trans ((Cx.below (by omega) (λi h=>by have:=vw.block i h;omega)).trans (eN.below (by omega) (λi h=>by have:=vw.block i h;omega))))⟩
mutual
theorem TW:∀x,xz x
 | .one k=>ZD k
 | .any=>ZB
 | .fY=>TX
 | .cat l=>ZC l (Ks l)
 | .alt l=>ZA l (Ks l)
 | .many x lo hi=>TY x lo hi (TW x)
theorem Ks:∀(l:List aF) (x:aF),x∈l->xz x
 | [],x,h=>by cases h
 | y::l,x,h=>by
  have hy:=TW y;rcases List.mem_cons.1 h with h|h
  ·rw[h];exact hy
  exact Ks l x h
end
end Go.Proofs.YtledlfbbebodgaaGreatDoor
end
section
namespace Go.Proofs.YtledlfbbebodgaaGreatDoor
open Go.Vc Go.Proofs Go.RowKit Cae
attribute [local irreducible] dd ae ak a7 runK bE Sl Vc.Own vc aU cJ a8
def sT (f:dw):Option (Int×Nat):=match iQ [] f.cQ with
 | .error e=>some (aHJ e)
 | .ok nm=>(gF nm f.rules).map λe=>((7:Int),e)
theorem ju {nm:bG}:∀(a b:List cD),gF nm (a++b)=match gF nm a with
  | some e=>some e
  | none=>gF nm b
 | [],b=>by simp only[List.nil_append,gF]
 | x::a,b=>by
  simp only[List.cons_append,gF];cases EM nm x with
  | some e=>rfl
  | none=>exact ju a b
def Yx (f:dw):Prop:=∀r∈f.rules,wd r.before<=100000/\wd r.after<=100000
theorem ai.iA {X X':Nat->Prop}{w:World}{x:aF}{v:Value}(h:ai X w v x)(hX:∀b,X' b->X b):ai X' w v x:=h.mono (Kept.refl (λ_=>False) w) (λ_ h=>h.elim) hX
theorem Ey (f:dw)(bJ:zK f)(jE:Yx f)(Ke:f.cQ.length<=1000000)(TE:f.rules.length<=1000000)(X:Nat->Prop)(v:Value)(w:World)(hv:jf X w v f) :
  bE Tryz.prog 31 [v] w λr w'=>po w.heap.size (sT f) r w'/\Below w.heap.size w w':=by
 have Iz:=hv;obtain⟨cv,rv,cs,rs,rfl,iW,jO,hC,hR⟩:=hv;have Qd:=cU.len hR;obtain⟨ca,cc,rfl,hcc⟩:=iW.shape;obtain⟨ra,rc,rfl,hrc⟩:=jO.shape;refine aE Tryz.func31 rfl (by kernel_rfl) [2] rfl ?_;push_cast -dsimp(maxSteps:=4000000) [Tryz.ntmps31];refine aR ?_;intro w1 aZ;have aZ:ly w w1 26 [.slice ca cs.length cc,.slice ra rs.length rc,.bool f.els]:=aZ;have z1:=aZ.size;have d0:aB w1 ⟨w.heap.size,0,none⟩ 0 3=some [.slice ca cs.length cc,.slice ra rs.length rc,.bool f.els]:=aZ.aN.aB;have Yp:jf X w1 (.agg #[.slice ca cs.length cc,.slice ra rs.length rc,.bool f.els]) f:=Iz.below aZ.below;push_cast -dsimp[d0];refine aA (G1 f bJ.1 Ke X _ w1 Yp) ?_;rintro r w2 ⟨hN,eR⟩;have z2:=eR.size;have fo:=aZ.below.trans (eR.mono (by omega));have B2:=aZ.aN.below eR (by omega);unfold lx at hN;cases o8:iQ [] f.cQ with
 | error e =>
  rw[o8]at hN;obtain⟨ev,rfl,hE⟩:=hN;obtain⟨eb,CP,rfl,Sq⟩:=hE;push_cast -dsimp;refine⟨?_,fo⟩;unfold sT;rw[o8];exact⟨eb,by omega,rfl,Sq⟩
 | ok nm =>
  rw[o8]at hN;obtain⟨mb,hmb,rfl,Yd,Sr⟩:=hN;have d1:w2.cell? ⟨w.heap.size,1,none⟩=some (.slice ra rs.length rc):=B2.cell rfl;push_cast -dsimp[d1];refine aL [2,6,7,8,20,21,22,23,24,25,26,27,28,29,30,31,32,33,34,35,36,37,38] (λz wx=>∃(i:Nat),z 20=.int .i64 i/\i<=f.rules.length/\gF nm (f.rules.take i)=none/\Below w2.heap.size w2 wx) (λz _=>f.rules.length-(intOf (z 20)).toNat) ?_ ?_
  ·exact⟨0,rfl,Nat.zero_le _,by simp[gF],Below.refl _ _⟩
  intro z wx hI;obtain⟨i,kr,hi,eZ,aEu⟩:=hI;have zx:=aEu.size;have bT:=fo.trans (aEu.mono (by omega));push_cast -dsimp[kr];refine⟨λaw=>?_,λfT=>?_⟩
  ·obtain⟨c,hc,sC,_,ht⟩:=au (l:=f.rules) (i:=i) (by omega);obtain⟨x,hx,HN,xW,HM,xV⟩:=pt hR hc;obtain⟨xp,xb,x1,x2⟩:=x;simp only at HN xW HM xV;subst HN;subst xW;obtain⟨b1,o,rfl,jh,aK⟩:=(jO.below bT).get hx;have c4:aB wx ⟨b1,o+i*4,none⟩ 0 4=some [.int .i64 c.pos,.bool c.brk,.pointer (some ⟨x1,0,none⟩),.pointer (some ⟨x2,0,none⟩)]:=ax _ 0 (λj u hu=>by simpa[iU,bd] using aK j u hu);push_cast -dsimp[c4];refine⟨⟨by omega,by omega⟩,?_⟩;refine ag (z:=[.int .i64 0,.bool false,.pointer none,.pointer none]) (by kernel_rfl) ?_;intro wa dt;have za:=dt.size;push_cast -dsimp;refine aJ (n:=4) (by kernel_rfl) dt.aN rfl (by simp) (by simp[Value.oneCell']) ?_;intro wb cL;have zb:=cL.size;have jK:Below wx.heap.size wx wb:=dt.below.trans (cL.kept.below (by omega) (λi h=>by omega));have aIC:=aEu.trans (jK.mono (by omega));have Fm:=bT.trans (jK.mono (by omega));have Rb:aM wb wx.heap.size 50 [.int .i64 c.pos,.bool c.brk,.pointer (some ⟨x1,0,none⟩),.pointer (some ⟨x2,0,none⟩)]:=cL.aN;have e2:wb.cell? ⟨wx.heap.size,2,none⟩=some (.pointer (some ⟨x1,0,none⟩)):=Rb.cell rfl;have nG:ai (λb=>X b/\b<w1.heap.size) wb (bd x1) c.before:=ai.iA (ai.below HM Fm) (λb h=>h.1);push_cast -dsimp[e2];refine aA (NN c.before (bJ.2 c sC).1 (by have:=(jE c sC).1;omega) nm Sr _ _ mb wb nG (Yd.below aIC)) ?_;rintro r3 w3 ⟨NT,fL⟩;have z3:=fL.size;have aIB:=aIC.trans (fL.mono (by omega));have qM:=Fm.trans (fL.mono (by omega));have Rc:=Rb.below fL Rb.lt
   have e3:w3.cell? ⟨wx.heap.size,3,none⟩=some (.pointer (some ⟨x2,0,none⟩)):=Rc.cell rfl;have tV:f.rules=f.rules.take (i+1)++f.rules.drop (i+1):=(List.take_append_drop _ _).symm;unfold zL at NT;cases HI:fi nm c.before with
   | some e =>
    rw[HI]at NT;obtain⟨eb,CP,rfl,Sq⟩:=NT;push_cast -dsimp;refine⟨?_,qM⟩;have cN:gF nm f.rules=some e:=by
     rw[tV,ju,ht,ju,eZ];simp only[gF,EM,HI]
    unfold sT;rw[o8];dsimp only;rw[cN];exact⟨eb,by omega,rfl,Sq⟩
   | none =>
    rw[HI]at NT;have NT:r3=.nilIface:=NT;subst NT;have Ye:ai (λb=>X b/\b<w1.heap.size) w3 (bd x2) c.after:=ai.iA (ai.below xV qM) (λb h=>h.1);push_cast -dsimp[e3];refine aA (NN c.after (bJ.2 c sC).2 (by have:=(jE c sC).2;omega) nm Sr _ _ mb w3 Ye (Yd.below aIB)) ?_;rintro r4 w4 ⟨Sn,kj⟩;have z4:=kj.size;have j0:=qM.trans (kj.mono (by omega));unfold zL at Sn;cases hp2:fi nm c.after with
    | some e =>
     rw[hp2]at Sn;obtain⟨eb,CP,rfl,Sq⟩:=Sn;push_cast -dsimp;refine⟨?_,j0⟩;have cN:gF nm f.rules=some e:=by
      rw[tV,ju,ht,ju,eZ];simp only[gF,EM,HI,hp2]
     unfold sT;rw[o8];dsimp only;rw[cN];exact⟨eb,by omega,rfl,Sq⟩
    | none =>
     rw[hp2]at Sn;have Sn:r4=.nilIface:=Sn;subst Sn;push_cast -dsimp;refine⟨⟨by omega,by omega⟩,⟨i+1,rfl,by omega,?_,aIB.trans (kj.mono (by omega))⟩,by rw[kr];simp only[intOf];omega⟩;rw[ht,ju,eZ];simp only[gF,EM,HI,hp2]
  rw[List.take_of_length_le (by omega)]at eZ;refine⟨?_,bT⟩;unfold sT;rw[o8];dsimp only;rw[eZ];rfl
end Go.Proofs.YtledlfbbebodgaaGreatDoor
end
section
namespace Cae
section
variable {has:ao->Int->Prop} {pts:List Int}
theorem tI {els:Bool}{i:Nat}:∀{a b:List cD},(∀r∈a,¬wJ has pts r i)->qq has pts els i (a++b)=qq has pts els i b
 | [],_,_=>rfl
 | r::a,b,h=>by
  rw[List.cons_append,qq,if_neg (h r (List.mem_cons_self ..))];exact tI λx hx=>h x (List.mem_cons_of_mem _ hx)
theorem YC {els:Bool}{i k:Nat}{l:List cD}{r:cD}(hk:l[k]?=some r)(hr:wJ has pts r i)(eZ:∀x∈l.take k,¬wJ has pts x i):qq has pts els i l=r.brk:=by
 obtain⟨aw,he⟩:=List.getElem?_eq_some_iff.1 hk;have e:l=l.take k++(r::l.drop (k+1)):=by
  rw[<-he,<-List.drop_eq_getElem_cons aw,List.take_append_drop]
 rw[e,tI eZ,qq,if_pos hr]
theorem Ma {els:Bool}{i:Nat}{l:List cD}(eZ:∀x∈l,¬wJ has pts x i):qq has pts els i l=els:=by
 have:=tI (els:=els) (b:=[]) eZ;rw[List.append_nil]at this;rw[this,qq]
theorem KG {x:aF}{i:Nat}{back:Bool}(hi:i<=pts.length):0<(jd pts.length (dF has pts back x) [i]).length↔nS has pts x i back:=by
 rw[List.length_pos_iff_exists_mem];constructor
 ·rintro⟨j,hj⟩;obtain⟨_,k,hk,h⟩:=fr.1 hj;rw[List.mem_singleton]at hk;subst hk;exact⟨j,h⟩
 rintro⟨j,h⟩;exact⟨j,fr.2 ⟨lI x hi h,i,List.mem_singleton.2 rfl,h⟩⟩
end
end Cae
namespace Go.Proofs.YtledlfbbebodgaaGreatDoor
open Go.Vc Go.Proofs Go.RowKit Cae
attribute [local irreducible] dd ae ak a7 runK bE Sl Vc.Own vc aU cJ a8
theorem KH (x:aF)(bJ:aj x)(jE:wd x<=100000)(nm:bG)(hr:gh nm)(us:List U)(hlen:us.length<=1000)(i:Nat)(hi:i<=us.length)(back:Bool)(X:Nat->Prop)(v lv:Value)(mb:Nat)(w:World)(hV:ai X w v x)(hN:fW X w mb nm)(hU:Sl X 3 (En yE) w lv us) :
  bE Tryz.prog 22 [v,.map (some mb),lv,.int .i64 i,.bool back] w λr w'=>(∃b:Bool,r=.bool b/\(b=true↔nS (bD nm) (bC us) x i back))/\Below w.heap.size w w':=by
 obtain⟨la,lc,rfl,Ke⟩:=hU.shape;refine aE Tryz.func22 rfl (by kernel_rfl) [10] rfl ?_;push_cast -dsimp(maxSteps:=4000000) [Tryz.ntmps22];refine⟨λ_=>⟨λHF=>by omega,λ_=>?_⟩,λuN=>by omega⟩;push_cast -dsimp;refine aR ?_;intro w1 aZ;have aZ:ly w w1 106 [.slice la us.length lc,.map (some mb),.bool back]:=aZ;have z1:=aZ.size;push_cast -dsimp;refine cT bA rfl rfl (by omega) ?_;intro w2 bw;have z2:=bw.size;have aIz:=bw.below;have fo:=aZ.below.trans (aIz.mono (by omega));have hR:Mr X w2 w.heap.size mb us nm back:=⟨⟨_,aZ.aN.below aIz (by omega),hU.below fo⟩,hN.below fo,hr,hlen⟩;push_cast -dsimp;have fJ:Vc.Own w1.heap.size 3 1 aY w2 (.slice (some ⟨w1.heap.size,0,none⟩) 1 1) [i]:=bw.own (by rfl) rfl (λ_=>rfl) (by omega) (by omega);refine aA (TW x bJ jE _ w2 w.heap.size mb us nm back hR v (hV.below fo) _ [i] (fJ.sl.weaken (λ_ h=>h.elim)) fJ.dR (by simp) (by simpa using hi)) ?_;rintro r w3 ⟨hO,fL⟩;have z3:=fL.size;obtain⟨oa,oc,rfl⟩:=hO.slice;have hS:=KG (has:=bD nm) (x:=x) (back:=back) (show i<=(bC us).length by rw[eU];exact hi)
 rw[eU]at hS;push_cast -dsimp;refine⟨⟨_,rfl,?_⟩,fo.trans (fL.mono (by omega))⟩;rw[<-hS,decide_eq_true_iff];omega
theorem aBb (c:cD)(bJ:aj c.before/\aj c.after)(jE:wd c.before<=100000/\wd c.after<=100000)(nm:bG)(hr:gh nm)(us:List U)(hlen:us.length<=1000)(i:Nat)(hi:i<=us.length)(X:Nat->Prop)(x1 x2:Nat)(lv:Value)(mb nb lb ib:Nat)(w:World)
  (h1:ai X w (bd x1) c.before) (h2:ai X w (bd x2) c.after) (hN:fW X w mb nm) (hU:Sl X 3 (En yE) w lv us) (cn:w.cell? ⟨nb,0,none⟩=some (.map (some mb))) (cl:w.cell? ⟨lb,0,none⟩=some lv) (ci:w.cell? ⟨ib,0,none⟩=some (.int .i64 i)) :
  bE Tryz.prog 45 [.agg #[.int .i64 c.pos,.bool c.brk,.pointer (some ⟨x1,0,none⟩),.pointer (some ⟨x2,0,none⟩)],.pointer (some ⟨nb,0,none⟩),.pointer (some ⟨lb,0,none⟩),.pointer (some ⟨ib,0,none⟩)] w λr w'=>(∃b:Bool,r=.bool b/\(b=true↔wJ (bD nm) (bC us) c i))/\Below w.heap.size w w':=by
 refine aE Tryz.func45 rfl (by kernel_rfl) [5] rfl ?_;push_cast -dsimp(maxSteps:=4000000) [Tryz.ntmps45];refine aR ?_;intro w1 aZ;have aZ:ly w w1 50 [.int .i64 c.pos,.bool c.brk,.pointer (some ⟨x1,0,none⟩),.pointer (some ⟨x2,0,none⟩)]:=aZ;have z1:=aZ.size;have gX:=aZ.below;have R1:=aZ.aN;have e2:w1.cell? ⟨w.heap.size,2,none⟩=some (.pointer (some ⟨x1,0,none⟩)):=R1.cell rfl;have cn1:w1.cell? ⟨nb,0,none⟩=some (.map (some mb)):=(gX.cell (World.block_lt_of_cell? w _ cn)).trans cn;have cl1:w1.cell? ⟨lb,0,none⟩=some lv:=(gX.cell (World.block_lt_of_cell? w _ cl)).trans cl;have ci1:w1.cell? ⟨ib,0,none⟩=some (.int .i64 i):=(gX.cell (World.block_lt_of_cell? w _ ci)).trans ci;push_cast -dsimp[e2,cn1,cl1,ci1];refine aA (KH c.before bJ.1 jE.1 nm hr us hlen i hi true X _ lv mb w1 (h1.below gX) (hN.below gX) (hU.below gX)) ?_;rintro _ w2 ⟨⟨b,rfl,hb⟩,eR⟩;have z2:=eR.size;have fo:=gX.trans (eR.mono (by omega));cases b with
 | false =>
  push_cast -dsimp;refine⟨⟨false,rfl,?_⟩,fo⟩;constructor
  ·intro h;cases h
  intro h;have:=hb.2 h.1;cases this
 | true =>
  have e3:w2.cell? ⟨w.heap.size,3,none⟩=some (.pointer (some ⟨x2,0,none⟩)):=(R1.below eR (by omega)).cell rfl;have cn2:w2.cell? ⟨nb,0,none⟩=some (.map (some mb)):=(eR.cell (World.block_lt_of_cell? w1 _ cn1)).trans cn1;have cl2:w2.cell? ⟨lb,0,none⟩=some lv:=(eR.cell (World.block_lt_of_cell? w1 _ cl1)).trans cl1;have ci2:w2.cell? ⟨ib,0,none⟩=some (.int .i64 i):=(eR.cell (World.block_lt_of_cell? w1 _ ci1)).trans ci1;push_cast -dsimp[e3,cn2,cl2,ci2];refine aA (KH c.after bJ.2 jE.2 nm hr us hlen i hi false X _ lv mb w2 (h2.below fo) (hN.below fo) (hU.below fo)) ?_;rintro _ w3 ⟨⟨b',rfl,CO⟩,fL⟩;push_cast -dsimp;refine⟨⟨_,rfl,?_⟩,fo.trans (fL.mono (by omega))⟩;rw[CO];exact⟨λh=>⟨hb.1 rfl,h⟩,λh=>h.2⟩
theorem SC (l:List cD)(hl:l.length<=1000000)(bJ:∀c∈l,aj c.before/\aj c.after)(jE:∀c∈l,wd c.before<=100000/\wd c.after<=100000)(nm:bG)(hr:gh nm)(us:List U)(hlen:us.length<=1000)(i:Nat)(hi:i<=us.length)(X:Nat->Prop)(rv lv:Value)(rs:List (Nat×Bool×Nat×Nat))(mb nb lb ib:Nat)(w:World)
  (jO:Sl X 4 (En iU) w rv rs) (hR:cU (lQ X w) rs l) (hN:fW X w mb nm) (hU:Sl X 3 (En yE) w lv us) (cn:w.cell? ⟨nb,0,none⟩=some (.map (some mb))) (cl:w.cell? ⟨lb,0,none⟩=some lv) (ci:w.cell? ⟨ib,0,none⟩=some (.int .i64 i)) :
  bE Tryz.prog 44 [rv,.func (.func 45) #[] #[.pointer (some ⟨nb,0,none⟩),.pointer (some ⟨lb,0,none⟩),.pointer (some ⟨ib,0,none⟩)]] w λr w' =>
   ((∃(k:Nat) (c:cD),r=.int .i64 k/\l[k]?=some c/\wJ (bD nm) (bC us) c i/\∀d∈l.take k,¬wJ (bD nm) (bC us) d i)\/(r=.int .i64 (-1)/\∀d∈l,¬wJ (bD nm) (bC us) d i))/\Below w.heap.size w w':=by
 have Qd:=cU.len hR;obtain⟨ra,rc,rfl,hrc⟩:=jO.shape;refine aE Tryz.func44 rfl (by kernel_rfl) [4] rfl ?_;push_cast -dsimp(maxSteps:=4000000) [Tryz.ntmps44];refine aL [4,5,8,9,10,11,12,13,14,15,16,17,18] (λz wx=>∃(k:Nat),z 8=.int .i64 k/\k<=l.length/\(∀d∈l.take k,¬wJ (bD nm) (bC us) d i)/\Below w.heap.size w wx) (λz _=>l.length-(intOf (z 8)).toNat) ?_ ?_
 ·exact⟨0,rfl,Nat.zero_le _,by simp,Below.refl _ _⟩
 intro z wx hI;obtain⟨k,h8,hk,eZ,bT⟩:=hI;have zx:=bT.size;push_cast -dsimp[h8];refine⟨λaw=>?_,λfT=>?_⟩
 ·obtain⟨c,hc,sC,_,ht⟩:=au (l:=l) (i:=k) (by omega);obtain⟨x,hx,HN,xW,HM,xV⟩:=pt hR hc;obtain⟨xp,xb,x1,x2⟩:=x;simp only at HN xW HM xV;subst HN;subst xW;obtain⟨b1,o,rfl,jh,aK⟩:=(jO.below bT).get hx;have c4:aB wx ⟨b1,o+k*4,none⟩ 0 4=some [.int .i64 c.pos,.bool c.brk,.pointer (some ⟨x1,0,none⟩),.pointer (some ⟨x2,0,none⟩)]:=ax _ 0 (λj u hu=>by simpa[iU,bd] using aK j u hu);push_cast -dsimp[c4];refine⟨⟨by omega,by omega⟩,?_⟩;refine aA (aBb c (bJ c sC) (jE c sC) nm hr us hlen i hi X x1 x2 lv mb nb lb ib wx (HM.below bT) (xV.below bT) (hN.below bT) (hU.below bT) ((bT.cell (World.block_lt_of_cell? w _ cn)).trans cn) ((bT.cell (World.block_lt_of_cell? w _ cl)).trans cl) ((bT.cell (World.block_lt_of_cell? w _ ci)).trans ci)) ?_;rintro _ w1 ⟨⟨b,rfl,hb⟩,gX⟩;have nF:=bT.trans (gX.mono zx);cases b with
  | true =>
   push_cast -dsimp;exact⟨.inl ⟨k,c,rfl,hc,hb.1 rfl,eZ⟩,nF⟩
  | false =>
   push_cast -dsimp;refine⟨⟨by omega,by omega⟩,⟨k+1,rfl,by omega,?_,nF⟩,by rw[h8];simp only[intOf];omega⟩;intro y hy;rw[ht,List.mem_append,List.mem_singleton]at hy;rcases hy with hy|rfl
   ·exact eZ y hy
   intro h;have:=hb.2 h;cases this
 rw[List.take_of_length_le (by omega)]at eZ;exact⟨.inr eZ,bT⟩
end Go.Proofs.YtledlfbbebodgaaGreatDoor
end
section
namespace Go.Proofs.YtledlfbbebodgaaGreatDoor
open Go.Vc Go.Proofs Go.RowKit Cae
attribute [local irreducible] dd ae ak a7 runK bE Sl Vc.Own vc aU cJ a8
def TN (B:Nat)(f:dw)(us:List U)(r:Value)(w:World):Prop:=match sT f with
 | some e=>∃v,r=.tuple #[.slice none 0 0,v]/\po B (some e) v w
 | none=>∃nm v,iQ [] f.cQ=.ok nm/\r=.tuple #[v,.nilIface]/\Vc.Own B 3 1 aY w v (jy (bD nm) (bC us) f.rules f.els)
noncomputable def ph (nm:bG)(us:List U)(rules:List cD)(els:Bool)(i:Nat):List Nat:=(List.range i).filter (Yq (bD nm) (bC us) rules els)
theorem jI (nm:bG)(us:List U)(rules:List cD)(els:Bool)(i:Nat):ph nm us rules els (i+1)=ph nm us rules els i++if Yq (bD nm) (bC us) rules els i then [i] else []:=by
 unfold ph;rw[List.range_succ,List.filter_append];congr 1;by_cases h:Yq (bD nm) (bC us) rules els i=true
 ·rw[if_pos h,List.filter_cons_of_pos h,List.filter_nil]
 rw[if_neg h,List.filter_cons_of_neg h,List.filter_nil]
theorem Y2 (nm:bG)(us:List U)(rules:List cD)(els:Bool)(i:Nat):(ph nm us rules els i).length<=i:=by
 have:=List.length_filter_le (Yq (bD nm) (bC us) rules els) (List.range i);rw[List.length_range]at this;exact this
theorem fW.iA {X X':Nat->Prop}{w:World}{b:Nat}{nm:bG}(h:fW X w b nm)(hX:∀b,X' b->X b):fW X' w b nm:=by
 obtain⟨gg,h2,h3⟩:=h;exact⟨gg,h2,h3.imp λa b h=>⟨h.1,h.2.1.weaken hX,h.2.2⟩⟩
def jA (v:Value)(w:World):Nat:=match v with
 | .pointer (some a)=>match w.cell? a with
  | some (.int _ n)=>n.toNat
  | _=>0
 | _=>0
theorem jV {v:Value}{w:World}{a:Addr}{i:Nat}{k:IntKind}(h:v=.pointer (some a))(hc:w.cell? a=some (.int k i)):jA v w=i:=by
 subst h;simp only[jA,hc,Int.toNat_natCast]
theorem zn {f:dw}(h:sT f=none):∃nm,iQ [] f.cQ=.ok nm:=by
 unfold sT at h;cases hn:iQ [] f.cQ with
 | ok nm=>exact⟨nm,rfl⟩
 | error e=>rw[hn]at h;cases h
theorem UK (f:dw)(bJ:zK f)(jE:Yx f)(Ke:f.cQ.length<=1000000)(TE:f.rules.length<=1000000)(us:List U)(hlen:us.length<=1000)(X:Nat->Prop)(v lv:Value)(w:World)(hv:jf X w v f)(hU:Sl X 3 (En yE) w lv us) :
  bE Tryz.prog 15 [v,lv] w λr w'=>TN w.heap.size f us r w'/\Below w.heap.size w w':=by
 have Iz:=hv;obtain⟨cv,rv,cs,rs,rfl,iW,jO,hC,hR⟩:=hv;obtain⟨ca,cc,rfl,hcc⟩:=iW.shape;obtain⟨ra,rc,rfl,hrc⟩:=jO.shape;obtain⟨la,lc,rfl,aTj⟩:=hU.shape;have Qd:=cU.len hR;refine aE Tryz.func15 rfl (by kernel_rfl) [4,5] rfl ?_;push_cast -dsimp(maxSteps:=4000000) [Tryz.ntmps15];refine aR ?_;intro w1 aZ;have aZ:ly w w1 26 [.slice ca cs.length cc,.slice ra rs.length rc,.bool f.els]:=aZ;have z1:=aZ.size;push_cast -dsimp;refine aR ?_;intro w2 bw;have bw:ly w1 w2 51 [.slice la us.length lc]:=bw;have z2:=bw.size;have fo:=aZ.below.trans (bw.below.mono (by omega));have B2:=aZ.aN.below bw.below (by omega);have d0:aB w2 ⟨w.heap.size,0,none⟩ 0 3=some [.slice ca cs.length cc,.slice ra rs.length rc,.bool f.els]:=B2.aB;push_cast -dsimp[d0];refine aA (Ey f bJ jE Ke TE X _ w2 (Iz.below fo)) ?_;rintro r w3 ⟨hE,fL⟩;have z3:=fL.size;have qM:=fo.trans (fL.mono (by omega));cases lA:sT f with
 | some e =>
  rw[lA]at hE;have hE0:=hE;obtain⟨c,e⟩:=e;obtain⟨eb,CP,rfl,Sq⟩:=hE;push_cast -dsimp;refine⟨?_,qM⟩;unfold TN;rw[lA];exact⟨_,rfl,hE0.mono (by omega)⟩
 | none =>
  rw[lA]at hE;have hE:r=.nilIface:=hE;subst hE;have o8:=zn lA;obtain⟨nm,o8⟩:=o8;have B3:=B2.below fL (by omega);have d3:aB w3 ⟨w.heap.size,0,none⟩ 0 3=some [.slice ca cs.length cc,.slice ra rs.length rc,.bool f.els]:=B3.aB;push_cast -dsimp[d3];refine aA (G1 f bJ.1 Ke X _ w3 (Iz.below qM)) ?_;rintro r w4 ⟨hN,kj⟩;have z4:=kj.size;have j0:=qM.trans (kj.mono (by omega));unfold lx at hN;rw[o8]at hN;obtain⟨mb,hmb,rfl,Yd,Sr⟩:=hN;push_cast -dsimp;refine ag (z:=[.map none]) (by kernel_rfl) ?_;intro w5 cO;have z5:=cO.size;push_cast -dsimp;refine aC cO.aN (by simp) rfl ?_;intro w6 bZ;have z6:=bZ.size;have aAj:Below w4.heap.size w4 w6:=cO.below.trans (bZ.kept.below (by omega) (λi h=>by omega));have N6:aM w6 w4.heap.size 29 [.map (some mb)]:=bZ.aN;push_cast -dsimp;refine ag (z:=[.int .i64 0]) (by kernel_rfl) ?_;intro w7 fh;have z7:=fh.size;push_cast -dsimp;refine aC fh.aN (by simp) rfl ?_;intro w8 sE;have z8:=sE.size;have aIE:Below w6.heap.size w6 w8:=fh.below.trans (sE.kept.below (by omega) (λi h=>by omega));have Ve:=aAj.trans (aIE.mono (by omega));have aEs:=j0.trans (Ve.mono (by omega));have N8:=N6.below aIE (by omega);have I8:aM w8 w6.heap.size 3 [.int .i64 0]:=sE.aN;have F8:=(B3.below kj (by omega)).below Ve (by omega);have L8:aM w8 w1.heap.size 51 [.slice la us.length lc]:=((bw.aN.below fL (by omega)).below kj (by omega)).below Ve (by omega);have aL5:=Yd.below Ve;have Ss:∃Xn:Nat->Prop,Xn=(λb=>X b/\b<w3.heap.size):=⟨_,rfl⟩;obtain⟨Xn,Ss⟩:=Ss;rw[<-Ss]at aL5;push_cast -dsimp
  have qL:w8.heap.size=w6.heap.size+1:=by omega
  refine aL [9,10,11,12,26,27,28,29,30,31,32,33,34,35,36,37,38,39,40,41,42,43,44,45,46,47,48,49,50,51,52,53,54,55,56,57,58,59,60,61,62,63,64,65,66] (λz wx=>∃(i ib:Nat) (ov:Value),z 10=.pointer (some ⟨ib,0,none⟩)/\z 9=ov/\i<=us.length+1/\(us=[]->i=0)/\aM wx ib 3 [.int .i64 i]/\Vc.Own w8.heap.size 3 1 aY wx ov (ph nm us f.rules f.els i)/\(∀g,ov.ownBlock=some g->g≠ib)/\Below w8.heap.size w8 wx) (λz wx=>us.length+1-jA (z 10) wx) ?_ ?_
  ·exact⟨0,w6.heap.size,_,rfl,rfl,by omega,λ_=>rfl,I8,Vc.Own.nil (enc:=aY) _ _ (λ_=>rfl) _,(λg h=>by cases h),Below.refl _ _⟩
  intro z wx hI;obtain⟨i,ib,ov,vK,h9,hi,yP,hIB,hO,dD,jg⟩:=hI;have zx:=jg.size;have bT:=aEs.trans (jg.mono (by omega));have su:=Y2 nm us f.rules f.els i;obtain⟨oa,oc,rfl⟩:=hO.slice;have Fx:=F8.below jg (by omega);have Lx:=L8.below jg (by omega);have Nx:=N8.below jg (by omega);have c0:wx.cell? ⟨ib,0,none⟩=some (.int .i64 i):=hIB.cell rfl;have cl:wx.cell? ⟨w1.heap.size,0,none⟩=some (.slice la us.length lc):=Lx.cell rfl;have cn:wx.cell? ⟨w4.heap.size,0,none⟩=some (.map (some mb)):=Nx.cell rfl;have f1:wx.cell? ⟨w.heap.size,1,none⟩=some (.slice ra rs.length rc):=Fx.cell rfl;have aMR:jA (z 10) wx=i:=jV vK c0;rw[aMR];push_cast -dsimp[vK,h9,c0,cl];have uJ:(us=[]\/us.length<i)->TN w.heap.size f us (.tuple #[.slice oa (ph nm us f.rules f.els i).length oc,.nilIface]) wx:=λh=>by
   unfold TN;rw[lA];refine⟨nm,_,o8,rfl,?_⟩;have e:ph nm us f.rules f.els i=jy (bD nm) (bC us) f.rules f.els:=by
    unfold jy ph;by_cases h0:us=[]
    ·rw[if_pos (by rw[h0];rfl),yP h0];rfl
    rw[if_neg (by unfold bC;simpa using h0),eU];have:i=us.length+1:=by
     rcases h with h|h
     ·exact absurd h h0
     omega
    rw[this]
   rw[<-e];exact hO.mono (by omega)
  refine⟨λhle=>⟨λpC=>?_,λhzero=>?_⟩,λHF=>?_⟩
  ·have Im:i<=us.length:=by omega
   have Cz:us≠[]:=λh=>by rw[h]at pC;simp at pC
   have hXm:∀b,(λ_:Nat=>False) b->X b:=λ_ h=>h.elim;have yj:cU (lQ (λ_=>False) wx) rs f.rules:=hR.imp λa b h=>⟨h.1,h.2.1,ai.iA (h.2.2.1.below bT) hXm,ai.iA (h.2.2.2.below bT) hXm⟩;have hNx:fW (λ_=>False) wx mb nm:=(Yd.below (Ve.trans (jg.mono (by omega)))).iA (λ_ h=>h.elim);push_cast -dsimp[f1];refine aA (SC f.rules TE bJ.2 jE nm Sr us hlen i Im _ _ (.slice la us.length lc) rs mb w4.heap.size w1.heap.size ib wx ((jO.below bT).weaken hXm) yj hNx ((hU.below bT).weaken hXm) cn cl c0) ?_;rintro r wy ⟨hK,iD⟩;have zy:=iD.size;have Fy:=Fx.below iD (by omega);have Ly:=Lx.below iD (by omega);have Kk:=hIB.below iD hIB.lt;have uE:=hO.below iD;have jc:=bT.trans (iD.mono (by omega));have I5:=jg.trans (iD.mono (by omega));have e1:wy.cell? ⟨w.heap.size,1,none⟩=some (.slice ra rs.length rc):=Fy.cell rfl;have e2:wy.cell? ⟨w.heap.size,2,none⟩=some (.bool f.els):=Fy.cell rfl;have e3:wy.cell? ⟨w1.heap.size,0,none⟩=some (.slice la us.length lc):=Ly.cell rfl;have e4:wy.cell? ⟨ib,0,none⟩=some (.int .i64 i):=Kk.cell rfl;rcases hK with ⟨k,c,rfl,hc,aNL,eZ⟩|⟨rfl,eZ⟩
   ·have vy:Yq (bD nm) (bC us) f.rules f.els i=(c.brk || decide (i=0) || decide (i=us.length)):=by
     unfold Yq;rw[YC hc aNL eZ,eU]
    obtain⟨x,hx,HN,xW,HM,xV⟩:=pt hR hc;obtain⟨xp,xb,x1,x2⟩:=x;simp only at HN xW HM xV;subst HN;subst xW;obtain⟨b1,o,rfl,jh,aK⟩:=(jO.below jc).get hx;have c4:wy.cell? ⟨b1,o+k*4+1,none⟩=some (.bool c.brk):=by simpa[iU] using aK 1 _ rfl
    have hkl:=(List.getElem?_eq_some_iff.1 hx).1;cases QL:(c.brk) with
    | true =>
     rw[QL]at vy
     (rw[QL]at c4);push_cast -dsimp[e1,e2,e3,e4,c4];refine⟨λ_=>⟨⟨by omega,by omega⟩,?_⟩,λh=>by omega⟩;have A9:=jI nm us f.rules f.els i;rw[vy,if_pos (by simp)]at A9;refine cT bA rfl rfl (by omega) ?_;intro wr oJ;have zr:=oJ.size;push_cast -dsimp;refine aS (base:=w8.heap.size) [i] (enc:=aY) bA (uE.new oJ) (by rfl) (λj u hu=>by rw[Nat.zero_add];exact oJ.cell hu) (by simp[aY,Value.oneCell']) (by simp only[List.length_cons,List.length_nil];omega) (by omega) ?_;intro vq wq yK Cq hnq;have pk:Kept (λj=>(Value.slice oa (ph nm us f.rules f.els i).length oc).ownBlock=some j) wr wq:=Kept.grown Cq (λ_ h=>h);have TP:=(Kk.below oJ.below Kk.lt).kept pk (λh=>dD _ h rfl);have I7:Below w8.heap.size w8 wq:=I5.trans ((oJ.below.mono (by omega)).trans (pk.below (by omega) (λg h=>(hO.block g h).1)));rw[<-A9]at yK;have qJ:=I7;have zS:=qJ.size;have AR:=yK;have cS:(wq).cell? ⟨ib,0,none⟩=some (.int .i64 i):=(TP).cell rfl;push_cast -dsimp[cS];refine ag (z:=[.int .i64 0]) (by kernel_rfl) ?_;intro wa dt;have za:=dt.size;push_cast -dsimp;refine aC dt.aN (by simp) rfl ?_;intro wb cL;have zb:=cL.size;have cb:wb.cell? ⟨(wq).heap.size,0,none⟩=some (.int .i64 i):=cL.aN.cell rfl;push_cast -dsimp[cb];refine⟨⟨by omega,by omega⟩,?_⟩;refine aC cL.aN (by simp) rfl ?_;intro wc fz;have zc:=fz.size;have mO:Below (wq).heap.size (wq) wc:=dt.below.trans ((cL.kept.below (by omega) (λi h=>by omega)).trans (fz.kept.below (by omega) (λi h=>by omega)));have IC:aM wc (wq).heap.size 3 [.int .i64 ((i+1:Nat):Int)]:=fz.aN
     have Ld:jA (.pointer (some ⟨(wq).heap.size,0,none⟩)) wc=i+1:=jV rfl (IC.cell rfl);push_cast -dsimp;refine⟨⟨i+1,(wq).heap.size,_,rfl,rfl,by omega,λh=>absurd h Cz,IC,AR.below mO,(λg hg=>by have:=AR.block g hg;omega),qJ.trans (mO.mono (by omega))⟩,?_⟩
     show us.length+1-jA (.pointer (some ⟨(wq).heap.size,0,none⟩)) wc<us.length+1-i
     rw[Ld];omega
    | false =>
     rw[QL]at vy
     (rw[QL]at c4);push_cast -dsimp[e1,e2,e3,e4,c4];refine⟨λ_=>⟨⟨by omega,by omega⟩,?_⟩,λh=>by omega⟩;refine⟨λh0=>⟨λh1=>?_,λh1=>?_⟩,λh0=>?_⟩
     ·have yi:i=us.length:=by omega
      have A9:=jI nm us f.rules f.els i;rw[vy,if_pos (by simp[yi])]at A9;refine cT bA rfl rfl (by omega) ?_;intro wr oJ;have zr:=oJ.size;push_cast -dsimp;refine aS (base:=w8.heap.size) [i] (enc:=aY) bA (uE.new oJ) (by rfl) (λj u hu=>by rw[Nat.zero_add];exact oJ.cell hu) (by simp[aY,Value.oneCell']) (by simp only[List.length_cons,List.length_nil];omega) (by omega) ?_;intro vq wq yK Cq hnq;have pk:Kept (λj=>(Value.slice oa (ph nm us f.rules f.els i).length oc).ownBlock=some j) wr wq:=Kept.grown Cq (λ_ h=>h);have TP:=(Kk.below oJ.below Kk.lt).kept pk (λh=>dD _ h rfl);have I7:Below w8.heap.size w8 wq:=I5.trans ((oJ.below.mono (by omega)).trans (pk.below (by omega) (λg h=>(hO.block g h).1)));rw[<-A9]at yK;have qJ:=I7;have zS:=qJ.size;have AR:=yK;have cS:(wq).cell? ⟨ib,0,none⟩=some (.int .i64 i):=(TP).cell rfl;push_cast -dsimp[cS];refine ag (z:=[.int .i64 0]) (by kernel_rfl) ?_;intro wa dt;have za:=dt.size;push_cast -dsimp;refine aC dt.aN (by simp) rfl ?_;intro wb cL;have zb:=cL.size;have cb:wb.cell? ⟨(wq).heap.size,0,none⟩=some (.int .i64 i):=cL.aN.cell rfl;push_cast -dsimp[cb];refine⟨⟨by omega,by omega⟩,?_⟩;refine aC cL.aN (by simp) rfl ?_;intro wc fz;have zc:=fz.size;have mO:Below (wq).heap.size (wq) wc:=dt.below.trans ((cL.kept.below (by omega) (λi h=>by omega)).trans (fz.kept.below (by omega) (λi h=>by omega)));have IC:aM wc (wq).heap.size 3 [.int .i64 ((i+1:Nat):Int)]:=fz.aN;have Ld:jA (.pointer (some ⟨(wq).heap.size,0,none⟩)) wc=i+1:=jV rfl (IC.cell rfl);push_cast -dsimp
      refine⟨⟨i+1,(wq).heap.size,_,rfl,rfl,by omega,λh=>absurd h Cz,IC,AR.below mO,(λg hg=>by have:=AR.block g hg;omega),qJ.trans (mO.mono (by omega))⟩,?_⟩
      show us.length+1-jA (.pointer (some ⟨(wq).heap.size,0,none⟩)) wc<us.length+1-i
      rw[Ld];omega
     ·have HB:i≠0:=by omega
      have yi:i≠us.length:=by omega
      have A9:=jI nm us f.rules f.els i;rw[vy,if_neg (by simp[HB,yi]),List.append_nil]at A9;have aD3:Vc.Own w8.heap.size 3 1 aY wy (.slice oa (ph nm us f.rules f.els i).length oc) (ph nm us f.rules f.els (i+1)):=by rw[A9];exact uE
      have qJ:=I5;have zS:=qJ.size;have AR:=aD3;have cS:(wy).cell? ⟨ib,0,none⟩=some (.int .i64 i):=(Kk).cell rfl;skip;refine ag (z:=[.int .i64 0]) (by kernel_rfl) ?_;intro wa dt;have za:=dt.size;push_cast -dsimp;refine aC dt.aN (by simp) rfl ?_;intro wb cL;have zb:=cL.size;have cb:wb.cell? ⟨(wy).heap.size,0,none⟩=some (.int .i64 i):=cL.aN.cell rfl;push_cast -dsimp[cb];refine⟨⟨by omega,by omega⟩,?_⟩;refine aC cL.aN (by simp) rfl ?_;intro wc fz;have zc:=fz.size;have mO:Below (wy).heap.size (wy) wc:=dt.below.trans ((cL.kept.below (by omega) (λi h=>by omega)).trans (fz.kept.below (by omega) (λi h=>by omega)));have IC:aM wc (wy).heap.size 3 [.int .i64 ((i+1:Nat):Int)]:=fz.aN;have Ld:jA (.pointer (some ⟨(wy).heap.size,0,none⟩)) wc=i+1:=jV rfl (IC.cell rfl);push_cast -dsimp;refine⟨⟨i+1,(wy).heap.size,_,rfl,rfl,by omega,λh=>absurd h Cz,IC,AR.below mO,(λg hg=>by have:=AR.block g hg;omega),qJ.trans (mO.mono (by omega))⟩,?_⟩
      show us.length+1-jA (.pointer (some ⟨(wy).heap.size,0,none⟩)) wc<us.length+1-i
      rw[Ld];omega
     have HB:i=0:=by omega
     have A9:=jI nm us f.rules f.els i;rw[vy,if_pos (by simp[HB])]at A9;refine cT bA rfl rfl (by omega) ?_;intro wr oJ;have zr:=oJ.size;push_cast -dsimp;refine aS (base:=w8.heap.size) [i] (enc:=aY) bA (uE.new oJ) (by rfl) (λj u hu=>by rw[Nat.zero_add];exact oJ.cell hu) (by simp[aY,Value.oneCell']) (by simp only[List.length_cons,List.length_nil];omega) (by omega) ?_;intro vq wq yK Cq hnq;have pk:Kept (λj=>(Value.slice oa (ph nm us f.rules f.els i).length oc).ownBlock=some j) wr wq:=Kept.grown Cq (λ_ h=>h);have TP:=(Kk.below oJ.below Kk.lt).kept pk (λh=>dD _ h rfl);have I7:Below w8.heap.size w8 wq:=I5.trans ((oJ.below.mono (by omega)).trans (pk.below (by omega) (λg h=>(hO.block g h).1)));rw[<-A9]at yK;have qJ:=I7;have zS:=qJ.size;have AR:=yK;have cS:(wq).cell? ⟨ib,0,none⟩=some (.int .i64 i):=(TP).cell rfl;push_cast -dsimp[cS];refine ag (z:=[.int .i64 0]) (by kernel_rfl) ?_;intro wa dt;have za:=dt.size;push_cast -dsimp;refine aC dt.aN (by simp) rfl ?_;intro wb cL;have zb:=cL.size;have cb:wb.cell? ⟨(wq).heap.size,0,none⟩=some (.int .i64 i):=cL.aN.cell rfl;push_cast -dsimp[cb];refine⟨⟨by omega,by omega⟩,?_⟩;refine aC cL.aN (by simp) rfl ?_;intro wc fz;have zc:=fz.size;have mO:Below (wq).heap.size (wq) wc:=dt.below.trans ((cL.kept.below (by omega) (λi h=>by omega)).trans (fz.kept.below (by omega) (λi h=>by omega)));have IC:aM wc (wq).heap.size 3 [.int .i64 ((i+1:Nat):Int)]:=fz.aN;have Ld:jA (.pointer (some ⟨(wq).heap.size,0,none⟩)) wc=i+1:=jV rfl (IC.cell rfl);push_cast -dsimp
     refine⟨⟨i+1,(wq).heap.size,_,rfl,rfl,by omega,λh=>absurd h Cz,IC,AR.below mO,(λg hg=>by have:=AR.block g hg;omega),qJ.trans (mO.mono (by omega))⟩,?_⟩
     show us.length+1-jA (.pointer (some ⟨(wq).heap.size,0,none⟩)) wc<us.length+1-i
     rw[Ld];omega
   have yN:∃el,f.els=el:=⟨_,rfl⟩;obtain⟨el,yN⟩:=yN;have vy:Yq (bD nm) (bC us) f.rules f.els i=(el || decide (i=0) || decide (i=us.length)):=by
    unfold Yq;rw[Ma eZ,eU,yN]
   have e2:wy.cell? ⟨w.heap.size,2,none⟩=some (.bool el):=by rw[<-yN];exact Fy.cell rfl
   cases QL:(el) with
   | true =>
    rw[QL]at vy
    (rw[QL]at e2);push_cast -dsimp[e1,e2,e3,e4];have A9:=jI nm us f.rules f.els i;rw[vy,if_pos (by simp)]at A9;refine cT bA rfl rfl (by omega) ?_;intro wr oJ;have zr:=oJ.size;push_cast -dsimp;refine aS (base:=w8.heap.size) [i] (enc:=aY) bA (uE.new oJ) (by rfl) (λj u hu=>by rw[Nat.zero_add];exact oJ.cell hu) (by simp[aY,Value.oneCell']) (by simp only[List.length_cons,List.length_nil];omega) (by omega) ?_;intro vq wq yK Cq hnq;have pk:Kept (λj=>(Value.slice oa (ph nm us f.rules f.els i).length oc).ownBlock=some j) wr wq:=Kept.grown Cq (λ_ h=>h);have TP:=(Kk.below oJ.below Kk.lt).kept pk (λh=>dD _ h rfl);have I7:Below w8.heap.size w8 wq:=I5.trans ((oJ.below.mono (by omega)).trans (pk.below (by omega) (λg h=>(hO.block g h).1)));rw[<-A9]at yK;have qJ:=I7;have zS:=qJ.size;have AR:=yK;have cS:(wq).cell? ⟨ib,0,none⟩=some (.int .i64 i):=(TP).cell rfl;push_cast -dsimp[cS];refine ag (z:=[.int .i64 0]) (by kernel_rfl) ?_;intro wa dt;have za:=dt.size;push_cast -dsimp;refine aC dt.aN (by simp) rfl ?_;intro wb cL;have zb:=cL.size;have cb:wb.cell? ⟨(wq).heap.size,0,none⟩=some (.int .i64 i):=cL.aN.cell rfl;push_cast -dsimp[cb];refine⟨⟨by omega,by omega⟩,?_⟩;refine aC cL.aN (by simp) rfl ?_;intro wc fz;have zc:=fz.size;have mO:Below (wq).heap.size (wq) wc:=dt.below.trans ((cL.kept.below (by omega) (λi h=>by omega)).trans (fz.kept.below (by omega) (λi h=>by omega)));have IC:aM wc (wq).heap.size 3 [.int .i64 ((i+1:Nat):Int)]:=fz.aN
    have Ld:jA (.pointer (some ⟨(wq).heap.size,0,none⟩)) wc=i+1:=jV rfl (IC.cell rfl);push_cast -dsimp;refine⟨⟨i+1,(wq).heap.size,_,rfl,rfl,by omega,λh=>absurd h Cz,IC,AR.below mO,(λg hg=>by have:=AR.block g hg;omega),qJ.trans (mO.mono (by omega))⟩,?_⟩
    show us.length+1-jA (.pointer (some ⟨(wq).heap.size,0,none⟩)) wc<us.length+1-i
    rw[Ld];omega
   | false =>
    rw[QL]at vy
    (rw[QL]at e2);push_cast -dsimp[e1,e2,e3,e4];refine⟨λh0=>⟨λh1=>?_,λh1=>?_⟩,λh0=>?_⟩
    ·have yi:i=us.length:=by omega
     have A9:=jI nm us f.rules f.els i;rw[vy,if_pos (by simp[yi])]at A9;refine cT bA rfl rfl (by omega) ?_;intro wr oJ;have zr:=oJ.size;push_cast -dsimp;refine aS (base:=w8.heap.size) [i] (enc:=aY) bA (uE.new oJ) (by rfl) (λj u hu=>by rw[Nat.zero_add];exact oJ.cell hu) (by simp[aY,Value.oneCell']) (by simp only[List.length_cons,List.length_nil];omega) (by omega) ?_;intro vq wq yK Cq hnq;have pk:Kept (λj=>(Value.slice oa (ph nm us f.rules f.els i).length oc).ownBlock=some j) wr wq:=Kept.grown Cq (λ_ h=>h);have TP:=(Kk.below oJ.below Kk.lt).kept pk (λh=>dD _ h rfl);have I7:Below w8.heap.size w8 wq:=I5.trans ((oJ.below.mono (by omega)).trans (pk.below (by omega) (λg h=>(hO.block g h).1)));rw[<-A9]at yK;have qJ:=I7;have zS:=qJ.size;have AR:=yK;have cS:(wq).cell? ⟨ib,0,none⟩=some (.int .i64 i):=(TP).cell rfl;push_cast -dsimp[cS];refine ag (z:=[.int .i64 0]) (by kernel_rfl) ?_;intro wa dt;have za:=dt.size;push_cast -dsimp;refine aC dt.aN (by simp) rfl ?_;intro wb cL;have zb:=cL.size;have cb:wb.cell? ⟨(wq).heap.size,0,none⟩=some (.int .i64 i):=cL.aN.cell rfl;push_cast -dsimp[cb];refine⟨⟨by omega,by omega⟩,?_⟩;refine aC cL.aN (by simp) rfl ?_;intro wc fz;have zc:=fz.size;have mO:Below (wq).heap.size (wq) wc:=dt.below.trans ((cL.kept.below (by omega) (λi h=>by omega)).trans (fz.kept.below (by omega) (λi h=>by omega)));have IC:aM wc (wq).heap.size 3 [.int .i64 ((i+1:Nat):Int)]:=fz.aN;have Ld:jA (.pointer (some ⟨(wq).heap.size,0,none⟩)) wc=i+1:=jV rfl (IC.cell rfl);push_cast -dsimp
     refine⟨⟨i+1,(wq).heap.size,_,rfl,rfl,by omega,λh=>absurd h Cz,IC,AR.below mO,(λg hg=>by have:=AR.block g hg;omega),qJ.trans (mO.mono (by omega))⟩,?_⟩
     show us.length+1-jA (.pointer (some ⟨(wq).heap.size,0,none⟩)) wc<us.length+1-i
     rw[Ld];omega
    ·have HB:i≠0:=by omega
     have yi:i≠us.length:=by omega
     have A9:=jI nm us f.rules f.els i;rw[vy,if_neg (by simp[HB,yi]),List.append_nil]at A9;have aD3:Vc.Own w8.heap.size 3 1 aY wy (.slice oa (ph nm us f.rules f.els i).length oc) (ph nm us f.rules f.els (i+1)):=by rw[A9];exact uE
     have qJ:=I5;have zS:=qJ.size;have AR:=aD3;have cS:(wy).cell? ⟨ib,0,none⟩=some (.int .i64 i):=(Kk).cell rfl;skip;refine ag (z:=[.int .i64 0]) (by kernel_rfl) ?_;intro wa dt;have za:=dt.size;push_cast -dsimp;refine aC dt.aN (by simp) rfl ?_;intro wb cL;have zb:=cL.size;have cb:wb.cell? ⟨(wy).heap.size,0,none⟩=some (.int .i64 i):=cL.aN.cell rfl;push_cast -dsimp[cb];refine⟨⟨by omega,by omega⟩,?_⟩;refine aC cL.aN (by simp) rfl ?_;intro wc fz;have zc:=fz.size;have mO:Below (wy).heap.size (wy) wc:=dt.below.trans ((cL.kept.below (by omega) (λi h=>by omega)).trans (fz.kept.below (by omega) (λi h=>by omega)));have IC:aM wc (wy).heap.size 3 [.int .i64 ((i+1:Nat):Int)]:=fz.aN;have Ld:jA (.pointer (some ⟨(wy).heap.size,0,none⟩)) wc=i+1:=jV rfl (IC.cell rfl);push_cast -dsimp;refine⟨⟨i+1,(wy).heap.size,_,rfl,rfl,by omega,λh=>absurd h Cz,IC,AR.below mO,(λg hg=>by have:=AR.block g hg;omega),qJ.trans (mO.mono (by omega))⟩,?_⟩
     show us.length+1-jA (.pointer (some ⟨(wy).heap.size,0,none⟩)) wc<us.length+1-i
     rw[Ld];omega
    have HB:i=0:=by omega
    have A9:=jI nm us f.rules f.els i;rw[vy,if_pos (by simp[HB])]at A9;refine cT bA rfl rfl (by omega) ?_;intro wr oJ;have zr:=oJ.size;push_cast -dsimp;refine aS (base:=w8.heap.size) [i] (enc:=aY) bA (uE.new oJ) (by rfl) (λj u hu=>by rw[Nat.zero_add];exact oJ.cell hu) (by simp[aY,Value.oneCell']) (by simp only[List.length_cons,List.length_nil];omega) (by omega) ?_;intro vq wq yK Cq hnq;have pk:Kept (λj=>(Value.slice oa (ph nm us f.rules f.els i).length oc).ownBlock=some j) wr wq:=Kept.grown Cq (λ_ h=>h);have TP:=(Kk.below oJ.below Kk.lt).kept pk (λh=>dD _ h rfl);have I7:Below w8.heap.size w8 wq:=I5.trans ((oJ.below.mono (by omega)).trans (pk.below (by omega) (λg h=>(hO.block g h).1)));rw[<-A9]at yK;have qJ:=I7;have zS:=qJ.size;have AR:=yK;have cS:(wq).cell? ⟨ib,0,none⟩=some (.int .i64 i):=(TP).cell rfl;push_cast -dsimp[cS];refine ag (z:=[.int .i64 0]) (by kernel_rfl) ?_;intro wa dt;have za:=dt.size;push_cast -dsimp;refine aC dt.aN (by simp) rfl ?_;intro wb cL;have zb:=cL.size;have cb:wb.cell? ⟨(wq).heap.size,0,none⟩=some (.int .i64 i):=cL.aN.cell rfl;push_cast -dsimp[cb];refine⟨⟨by omega,by omega⟩,?_⟩;refine aC cL.aN (by simp) rfl ?_;intro wc fz;have zc:=fz.size;have mO:Below (wq).heap.size (wq) wc:=dt.below.trans ((cL.kept.below (by omega) (λi h=>by omega)).trans (fz.kept.below (by omega) (λi h=>by omega)));have IC:aM wc (wq).heap.size 3 [.int .i64 ((i+1:Nat):Int)]:=fz.aN;have Ld:jA (.pointer (some ⟨(wq).heap.size,0,none⟩)) wc=i+1:=jV rfl (IC.cell rfl);push_cast -dsimp
    refine⟨⟨i+1,(wq).heap.size,_,rfl,rfl,by omega,λh=>absurd h Cz,IC,AR.below mO,(λg hg=>by have:=AR.block g hg;omega),qJ.trans (mO.mono (by omega))⟩,?_⟩
    show us.length+1-jA (.pointer (some ⟨(wq).heap.size,0,none⟩)) wc<us.length+1-i
    rw[Ld];omega
  ·exact⟨uJ (.inl (List.eq_nil_of_length_eq_zero (by omega))),bT⟩
  exact⟨uJ (.inr (by omega)),bT⟩
end Go.Proofs.YtledlfbbebodgaaGreatDoor
end
section
namespace Cae
theorem aBH {f:dw}{r:cD}(hr:r∈f.rules):pn r.before<=(mM f).length+5/\pn r.after<=(mM f).length+5:=by
 have h1:=aF2 r;have h2:=Pl fw hr;have h3:(f.rules.flatMap fw).length<=(mM f).length:=by
  unfold mM;simp only[List.length_append];omega
 have h4:=OM r.before;have h5:=OM r.after;have HI:pn r.before=(aW r.before 2).length+3:=rfl;have hp2:pn r.after=(aW r.after 2).length+3:=rfl;omega
end Cae
namespace Go.Proofs.YtledlfbbebodgaaGreatDoor
open Go.Vc Go.Proofs Go.RowKit Cae
attribute [local irreducible] dd ae ak a7 runK bE Sl Vc.Own vc aU cJ a8
theorem J9 {s:List UInt8}{f:dw}(h:eO s=.ok f)(hs:s.length<=5000):Yx f:=λr hr=>by
 have h1:=YT h;have h2:=aBH hr;have h3:=O9 r.before;have h4:=O9 r.after;omega
theorem jf.mono {X X' Y:Nat->Prop}{w w':World}{v:Value}{f:dw}(h:jf X w v f)(hk:Kept Y w w')(hY:∀i,Y i->X i)(hX:∀i,X' i->X i):jf X' w' v f:=by
 obtain⟨cv,rv,cs,rs,rfl,S1,S2,A1,A2⟩:=h;exact⟨cv,rv,cs,rs,rfl,(S1.kept hk hY).weaken hX,(S2.kept hk hY).weaken hX,A1.imp λa c h=>tX.mono hk hY hX h,A2.imp λa c h=>lQ.mono hk hY hX h⟩
def aDl (B:Nat)(s:List UInt8)(r:Value)(w:World):Prop:=∃(a1:Option Addr) (n1 k1:Nat) (a2:Option Addr) (n2 k2:Nat) (e b:Bool),r=.tuple #[.agg #[.slice a1 n1 k1,.slice a2 n2 k2,.bool e],.bool b] /\
 (b=true->s.length<=500/\∃f,eO s=.ok f/\sT f=none/\jf (·<B) w (.agg #[.slice a1 n1 k1,.slice a2 n2 k2,.bool e]) f)
theorem Xs (s:List UInt8)(w:World)(hd:Db w)(he:mA w)(hg:11<=w.heap.size) :
  bE Tryz.prog 9 [str s] w λr w'=>aDl w.heap.size s r w'/\Below w.heap.size w w':=by
 refine jm Tryz.func9 rfl (by kernel_rfl) [.cell 2 26,.tmp 3] rfl ?_;push_cast -dsimp(maxSteps:=4000000) [Tryz.ntmps9];refine ag (z:=[.slice none 0 0,.slice none 0 0,.bool false]) (by kernel_rfl) ?_;intro w1 aZ;have z1:=aZ.size;push_cast -dsimp;refine⟨λaw=>?_,λfT=>?_⟩
 ·refine aJ (n:=3) (by kernel_rfl) aZ.aN rfl (by simp) (by intro v hv;simp only[List.mem_cons,List.not_mem_nil,or_false]at hv;rcases hv with rfl|rfl|rfl<;>rfl) ?_;intro w2 bw;have z2:=bw.size;have eR:Below w.heap.size w w2:=aZ.below.trans (bw.kept.below (by omega) (λi h=>by omega));have d2:aB w2 ⟨w.heap.size,0,none⟩ 0 3=some [.slice none 0 0,.slice none 0 0,.bool false]:=bw.aN.aB;push_cast -dsimp[d2];refine⟨⟨_,_,_,_,_,_,_,_,rfl,λh=>by cases h⟩,eR⟩
 refine aA (Jn s (by omega) w1 (hd.below aZ.below hd.lt) (he.below aZ.below) (by omega)) ?_;rintro r w2 ⟨hP,eR⟩;have z2:=eR.size;have fo:=aZ.below.trans (eR.mono (by omega));rcases hP with ⟨f,v,GC,rfl,hV⟩|⟨e,pos,b,GC,rfl,CP,Sq⟩
 ·have N0:=hV;obtain⟨cv,rv,cs,rs,rfl,S1,S2,A1,A2⟩:=hV;have hpo:=J8 (by omega) GC;have hpp:=J9 GC (by omega);obtain⟨ca,cc,rfl,hcc⟩:=S1.shape;obtain⟨ra,rc,rfl,hrc⟩:=S2.shape;push_cast -dsimp;refine ag (z:=[.slice none 0 0,.slice none 0 0,.bool false]) (by kernel_rfl) ?_;intro w3 dZ;have z3:=dZ.size;push_cast -dsimp;refine aJ (n:=3) (by kernel_rfl) dZ.aN rfl (by simp) (by intro v hv;simp only[List.mem_cons,List.not_mem_nil,or_false]at hv;rcases hv with rfl|rfl|rfl<;>rfl) ?_;intro w4 az;have z4:=az.size;have Cn:Below w2.heap.size w2 w4:=dZ.below.trans (az.kept.below (by omega) (λi h=>by omega));have j0:=fo.trans (Cn.mono (by omega));have B4:aM w4 w2.heap.size 26 [.slice ca cs.length cc,.slice ra rs.length rc,.bool f.els]:=az.aN;have R4:=(aZ.aN.below eR (by omega)).below Cn (by omega);have B4d:=B4.drew;have Vh:=bl w4;have d4:aB w4.drew ⟨w2.heap.size,0,none⟩ 0 3=some [.slice ca cs.length cc,.slice ra rs.length rc,.bool f.els]:=B4d.aB;push_cast -dsimp;refine bx (λw'=>aM w' w2.heap.size 26 [.slice ca cs.length cc,.slice ra rs.length rc,.bool f.els]) mixed (by kernel_rfl) B4d ?_;push_cast -dsimp[d4];have j1:∀bU,aM bU w2.heap.size 26 [.slice ca cs.length cc,.slice ra rs.length rc,.bool f.els]->aB bU ⟨w2.heap.size,0,none⟩ 0 3=some [.slice ca cs.length cc,.slice ra rs.length rc,.bool f.els]:=λbU h=>h.aB;refine⟨λbU h=>by rw[j1 bU h];exact rfl,λbU h=>by rw[j1 bU h];exact rfl,?_⟩;have hVd:=(N0.below Cn).below Vh;refine aA (Ey f hpo.1 hpp (by omega) (by omega) _ _ w4.drew hVd) ?_
  rintro r w5 ⟨hE,ng⟩;have z5:=ng.size;have B5:=B4d.below ng B4d.lt;have R5:=(R4.drew).below ng R4.drew.lt;refine⟨B5,?_⟩;have vg:=(j0.trans (Vh.mono (by omega))).trans (ng.mono (by show w.heap.size<=w4.heap.size;omega))
  have zd:w4.drew.heap.size=w4.heap.size:=rfl;cases lA:sT f with
  | some e =>
   rw[lA]at hE;obtain⟨c,e⟩:=e;obtain⟨eb,CP,rfl,Sq⟩:=hE;push_cast -dsimp;refine aJ (n:=3) (by kernel_rfl) R5 rfl (by simp) (by intro v hv;simp only[List.mem_cons,List.not_mem_nil,or_false]at hv;rcases hv with rfl|rfl|rfl<;>rfl) ?_;intro w6 bZ;have z6:=bZ.size;have lp:=bZ.kept;have xK:=vg;have zF:=xK.size;have B6:=aM.kept (B5) bZ.kept (λh=>by omega);have Vm:Below w.heap.size w w6:=xK.trans (bZ.kept.below (by omega) (λi h=>by omega));refine⟨B6,?_⟩;have d6:aB w6 ⟨w.heap.size,0,none⟩ 0 3=some [.slice ca cs.length cc,.slice ra rs.length rc,.bool f.els]:=bZ.aN.aB;push_cast -dsimp[d6];exact⟨⟨_,_,_,_,_,_,_,_,rfl,λh=>by cases h⟩,Vm⟩
  | none =>
   rw[lA]at hE;have hE:r=.nilIface:=hE;subst hE;push_cast -dsimp;refine aJ (n:=3) (by kernel_rfl) R5 rfl (by simp) (by intro v hv;simp only[List.mem_cons,List.not_mem_nil,or_false]at hv;rcases hv with rfl|rfl|rfl<;>rfl) ?_;intro w6 bZ;have z6:=bZ.size;have lp:=bZ.kept;have xK:=vg;have zF:=xK.size;have B6:=aM.kept (B5) bZ.kept (λh=>by omega);have Vm:Below w.heap.size w w6:=xK.trans (bZ.kept.below (by omega) (λi h=>by omega));refine⟨B6,?_⟩;have d6:aB w6 ⟨w.heap.size,0,none⟩ 0 3=some [.slice ca cs.length cc,.slice ra rs.length rc,.bool f.els]:=bZ.aN.aB;push_cast -dsimp[d6];have aNu:Kept (·=w.heap.size) w2 w6:=(Kept.aO (Cn.trans ((Vh.mono (by omega)).trans (ng.mono (by omega)))) (λi h1 h2=>by omega)).trans bZ.kept (λ_ _ h=>h);exact⟨⟨_,_,_,_,_,_,_,_,rfl,λ_=>⟨by omega,f,GC,lA,N0.mono aNu (λi h=>by omega) (λi h=>by omega)⟩⟩,Vm⟩
 skip;push_cast -dsimp;refine ag (z:=[.slice none 0 0,.slice none 0 0,.bool false]) (by kernel_rfl) ?_;intro w3 dZ;have z3:=dZ.size;push_cast -dsimp;refine aJ (n:=3) (by kernel_rfl) dZ.aN rfl (by simp) (by intro v hv;simp only[List.mem_cons,List.not_mem_nil,or_false]at hv;rcases hv with rfl|rfl|rfl<;>rfl) ?_;intro w4 az;have z4:=az.size;have Cn:Below w2.heap.size w2 w4:=dZ.below.trans (az.kept.below (by omega) (λi h=>by omega));have j0:=fo.trans (Cn.mono (by omega));have B4:aM w4 w2.heap.size 26 [.slice none 0 0,.slice none 0 0,.bool false]:=az.aN;have R4:=(aZ.aN.below eR (by omega)).below Cn (by omega);have B4d:=B4.drew;have Vh:=bl w4;have d4:aB w4.drew ⟨w2.heap.size,0,none⟩ 0 3=some [.slice none 0 0,.slice none 0 0,.bool false]:=B4d.aB;push_cast -dsimp;refine bx (λw'=>aM w' w2.heap.size 26 [.slice none 0 0,.slice none 0 0,.bool false]) mixed (by kernel_rfl) B4d ?_;push_cast -dsimp[d4];have j1:∀bU,aM bU w2.heap.size 26 [.slice none 0 0,.slice none 0 0,.bool false]->aB bU ⟨w2.heap.size,0,none⟩ 0 3=some [.slice none 0 0,.slice none 0 0,.bool false]:=λbU h=>h.aB;refine⟨λbU h=>by rw[j1 bU h];exact rfl,?_⟩;have zd:w4.drew.heap.size=w4.heap.size:=rfl;refine aJ (n:=3) (by kernel_rfl) R4.drew rfl (by simp) (by intro v hv;simp only[List.mem_cons,List.not_mem_nil,or_false]at hv;rcases hv with rfl|rfl|rfl<;>rfl) ?_;intro w6 bZ;have z6:=bZ.size;have lp:=bZ.kept;have xK:=(j0.trans (Vh.mono (by omega)));have zF:=xK.size;have B6:=aM.kept (B4d) bZ.kept (λh=>by omega)
 have Vm:Below w.heap.size w w6:=xK.trans (bZ.kept.below (by omega) (λi h=>by omega));refine⟨B6,?_⟩;have d6:aB w6 ⟨w.heap.size,0,none⟩ 0 3=some [.slice none 0 0,.slice none 0 0,.bool false]:=bZ.aN.aB;push_cast -dsimp[d6];exact⟨⟨_,_,_,_,_,_,_,_,rfl,λh=>by cases h⟩,Vm⟩
end Go.Proofs.YtledlfbbebodgaaGreatDoor
end
section
namespace Go.Proofs.YtledlfbbebodgaaGreatDoor
open Go.Vc Go.Proofs Go.RowKit
open Go.RowKit Go.Extern.Stop Go.Stop Go.Extern
def Kj (w:World):Prop:=w.cell? ⟨1,0,none⟩=some (.iface 210 (.agg #[.pointer (some ⟨11,31,none⟩)]))
end Go.Proofs.YtledlfbbebodgaaGreatDoor
end
