/- Texts of this claim, merged: Matchd, Pcod, Pcod2, Pcod3, Plim, Plim2, EqR, Cd1, Cd2, At0, RvP, Cd3, Pmir, Cd4. -/
import Derived.Test.YtledlfbbebodgaaGreatDoorM12
set_option maxRecDepth 100000
set_option linter.unusedSimpArgs false
set_option linter.unusedVariables false
set_option maxHeartbeats 8000000
section
namespace Go.Proofs.YtledlfbbebodgaaGreatDoor
open Go.Vc Go.Proofs Go.RowKit Cae
attribute [local irreducible] dd ae ak a7 runK bE Sl Vc.Own vc aU cJ a8
end Go.Proofs.YtledlfbbebodgaaGreatDoor
end
section
namespace Cae
def EJ (pts:List Int)(back:Bool)(i:Nat):List Int:=if back then (pts.take i).reverse else pts.drop i
def sL (c:aD)(S:Nat->Nat->Prop)(e:Nat):Nat->Nat->Prop
 | 0,m=>m=e
 | t+1,m=>c.ins[m]?=some ⟨2,((m+1:Nat):Int),(e:Int)⟩/\∃m',S (m+1) m'/\sL c S e t m'
section
variable (has:ao->Int->Prop) (c:aD) (back:Bool)
mutual
def iK:aF->Nat->Nat->Prop
 | .one k,a,b=>b=a+1/\∃(i:Nat) (s:List Rg),c.ins[a]?=some ⟨1,(i:Int),0⟩/\c.sets[i]?=some s/\∀p,fK s p=true↔has k p
 | .any,a,b=>b=a+1/\∃(i:Nat) (s:List Rg),c.ins[a]?=some ⟨1,(i:Int),0⟩/\c.sets[i]?=some s/\∀p,0<=p->p<=1114111->fK s p=true
 | .fY,a,b=>b=a+1/\c.ins[a]?=some ⟨4,0,0⟩
 | .cat l,a,b=>if back then nX l a b else kJ l a b
 | .alt l,a,b=>lR l a b
 | .many x lo hi,a,b=>∃m,iterM (λa b=>iK x a b) lo.toNat a m/\if hi<0 then c.ins[m]?=some ⟨2,((m+1:Nat):Int),(b:Int)⟩/\∃e,iK x (m+1) e/\c.ins[e]?=some ⟨3,(m:Int),0⟩/\b=e+1 else sL c (λa b=>iK x a b) b (hi-lo).toNat m
def kJ:List aF->Nat->Nat->Prop
 | [],a,b=>a=b
 | x::l,a,b=>∃m,iK x a m/\kJ l m b
def nX:List aF->Nat->Nat->Prop
 | [],a,b=>a=b
 | x::l,a,b=>∃m,nX l a m/\iK x m b
def lR:List aF->Nat->Nat->Prop
 | [],a,b=>False
 | x::l,a,b=>(l=[]/\iK x a b)\/(l≠[]/\∃m,c.ins[a]?=some ⟨2,((a+1:Nat):Int),((m+1:Nat):Int)⟩/\iK x (a+1) m/\c.ins[m]?=some ⟨3,(b:Int),0⟩/\lR l (m+1) b)
end
end
section
variable {has:ao->Int->Prop} {c:aD} {back:Bool} {pts:List Int}
theorem ux {i:Nat}(hi:i<=pts.length):(eJ pts back i=none/\EJ pts back i=[])\/∃j p,eJ pts back i=some (j,p)/\EJ pts back i=p::EJ pts back j:=by
 unfold eJ EJ;cases back with
 | true =>
  simp only[if_true];by_cases h0:i=0
  ·subst h0;exact .inl ⟨by simp,by simp⟩
  rw[if_neg h0];obtain⟨k,rfl⟩:∃k,i=k+1:=⟨i-1,by omega⟩;have hk:k<pts.length:=by omega
  refine .inr ⟨k,pts[k],?_,?_⟩
  ·rw[show k+1-1=k by omega,List.getElem?_eq_getElem hk];rfl
  rw[List.take_succ_eq_append_getElem hk,List.reverse_append];rfl
 | false =>
  simp only[Bool.false_eq_true,if_false];by_cases h0:i<pts.length
  ·exact .inr ⟨i+1,pts[i],by rw[List.getElem?_eq_getElem h0];rfl,List.drop_eq_getElem_cons h0⟩
  exact .inl ⟨by rw[List.getElem?_eq_none (by omega)];rfl,List.drop_eq_nil_of_le (by omega)⟩
theorem rd_some {i j:Nat}{p:Int}(hi:i<=pts.length)(h:eJ pts back i=some (j,p)):EJ pts back i=p::EJ pts back j:=by
 rcases ux (back:=back) hi with ⟨e1,_⟩|⟨k,q,e1,e2⟩
 ·rw[h]at e1;cases e1
 rw[h]at e1;cases e1;exact e2
theorem YQ {i j:Nat}{p:Int}(h:eJ pts back i=some (j,p)):p∈pts:=by
 unfold eJ at h;split at h
 ·split at h
  ·cases h
  cases hp:pts[i-1]? with
  | none=>rw[hp]at h;cases h
  | some q=>rw[hp]at h;cases h;exact List.mem_of_getElem? hp
 cases hp:pts[i]? with
 | none=>rw[hp]at h;cases h
 | some q=>rw[hp]at h;cases h;exact List.mem_of_getElem? hp
theorem oL {R:Nat->Nat->Prop}:∀{m n i j:Nat},iterM R (m+n) i j↔∃k,iterM R m i k/\iterM R n k j
 | 0,n,i,j=>by rw[Nat.zero_add];exact⟨λh=>⟨i,rfl,h⟩,λ⟨k,h1,h2⟩=>by cases h1;exact h2⟩
 | m+1,n,i,j=>by
  rw[show m+1+n=(m+n)+1 by omega]
  constructor
  ·rintro⟨a,h1,h2⟩;obtain⟨k,h3,h4⟩:=oL.1 h2;exact⟨k,⟨a,h1,h3⟩,h4⟩
  rintro⟨k,⟨a,h1,h3⟩,h4⟩;exact⟨a,h1,oL.2 ⟨k,h3,h4⟩⟩
def Fw (c:aD)(pts:List Int)(back:Bool)(S R:Nat->Nat->Prop):Prop:=∀a b i h,S a b->i<=pts.length->dI c h a (EJ pts back i)->∃j h',j<=pts.length/\h'<=h/\R i j/\dI c h' b (EJ pts back j)
def Bw (c:aD)(pts:List Int)(back:Bool)(S R:Nat->Nat->Prop):Prop:=∀a b i j,S a b->i<=pts.length->R i j->Acc c b (EJ pts back j)->Acc c a (EJ pts back i)
theorem DX {h a:Nat}{ps:List Int}{i:Int}(hx:c.ins[a]?=some ⟨1,i,0⟩)(hh:dI c h a ps):∃h' p r,h'+1=h/\ps=p::r/\fK (c.sets.getD i.toNat []) p=true/\dI c h' (a+1) r:=by
 cases h with
 | zero=>exact hh.elim
 | succ h =>
  rw[dI,hx]at hh;dsimp only at hh;rw[if_neg (by decide),if_neg (by decide),if_neg (by decide),if_neg (by decide)]at hh;cases ps with
  | nil=>exact hh.elim
  | cons p r=>exact⟨h,p,r,rfl,rfl,hh.1,hh.2⟩
theorem sS {h a:Nat}{ps:List Int}{i j:Int}(hx:c.ins[a]?=some ⟨2,i,j⟩)(hh:dI c h a ps):∃h',h'+1=h/\(dI c h' i.toNat ps\/dI c h' j.toNat ps):=by
 cases h with
 | zero=>exact hh.elim
 | succ h =>
  rw[dI,hx]at hh;dsimp only at hh;rw[if_neg (by decide),if_pos rfl]at hh;exact⟨h,rfl,hh⟩
theorem DW {h a:Nat}{ps:List Int}{i:Int}(hx:c.ins[a]?=some ⟨3,i,0⟩)(hh:dI c h a ps):∃h',h'+1=h/\dI c h' i.toNat ps:=by
 cases h with
 | zero=>exact hh.elim
 | succ h =>
  rw[dI,hx]at hh;dsimp only at hh;rw[if_neg (by decide),if_neg (by decide),if_pos rfl]at hh;exact⟨h,rfl,hh⟩
theorem TU {h a:Nat}{ps:List Int}(hx:c.ins[a]?=some ⟨4,0,0⟩)(hh:dI c h a ps):∃h',h'+1=h/\ps=[]/\dI c h' (a+1) ps:=by
 cases h with
 | zero=>exact hh.elim
 | succ h =>
  rw[dI,hx]at hh;dsimp only at hh;rw[if_neg (by decide),if_neg (by decide),if_neg (by decide),if_pos rfl]at hh;exact⟨h,rfl,hh.1,hh.2⟩
theorem Nl {S R:Nat->Nat->Prop}(hF:Fw c pts back S R):∀n,Fw c pts back (iterM S n) (iterM R n)
 | 0,a,b,i,h,hs,hi,hh=>by cases hs;exact⟨i,h,hi,Nat.le_refl _,rfl,hh⟩
 | n+1,a,b,i,h,⟨m,h1,h2⟩,hi,hh=>by
  obtain⟨j,h',hj,hle,hr,Dc⟩:=hF a m i h h1 hi hh;obtain⟨k,VN,hk,Im,jN,uL⟩:=Nl hF n m b j h' h2 hj Dc;exact⟨k,VN,hk,by omega,⟨j,hr,jN⟩,uL⟩
theorem Nk {S R:Nat->Nat->Prop}(hle:∀i j,i<=pts.length->R i j->j<=pts.length)(hB:Bw c pts back S R):∀n,Bw c pts back (iterM S n) (iterM R n)
 | 0,a,b,i,j,hs,hi,hr,hh=>by cases hs;cases hr;exact hh
 | n+1,a,b,i,j,⟨m,h1,h2⟩,hi,⟨k,r1,r2⟩,hh=>hB a m i k h1 hi r1 (Nk hle hB n m b k j h2 (hle _ _ hi r1) r2 hh)
theorem aCP {S R:Nat->Nat->Prop}{e:Nat}(hF:Fw c pts back S R):∀t m i h,sL c S e t m->i<=pts.length->dI c h m (EJ pts back i)->∃n j h',n<=t/\j<=pts.length/\h'<=h/\iterM R n i j/\dI c h' e (EJ pts back j)
 | 0,m,i,h,hs,hi,hh=>by cases hs;exact⟨0,i,h,Nat.le_refl _,hi,Nat.le_refl _,rfl,hh⟩
 | t+1,m,i,h,hs,hi,hh=>by
  obtain⟨hx,m',h1,h2⟩:=hs;obtain⟨h0,rfl,hq⟩:=sS hx hh;rw[Int.toNat_natCast,Int.toNat_natCast]at hq;rcases hq with hh|hh
  ·obtain⟨j,h',hj,hle,hr,Dc⟩:=hF (m+1) m' i h0 h1 hi hh;obtain⟨n,k,VN,hn,hk,Im,jN,uL⟩:=aCP hF t m' j h' h2 hj Dc;exact⟨n+1,k,VN,by omega,hk,by omega,⟨j,hr,jN⟩,uL⟩
  exact⟨0,i,h0,by omega,hi,by omega,rfl,hh⟩
theorem aCO {S R:Nat->Nat->Prop}{e:Nat}(hle:∀i j,i<=pts.length->R i j->j<=pts.length)(hB:Bw c pts back S R):∀t m i j n,sL c S e t m->i<=pts.length->n<=t->iterM R n i j->Acc c e (EJ pts back j)->Acc c m (EJ pts back i)
 | 0,m,i,j,n,hs,hi,hn,hr,hh=>by
  obtain rfl:n=0:=by omega
  cases hs;cases hr;exact hh
 | t+1,m,i,j,n,hs,hi,hn,hr,hh=>by
  obtain⟨hx,m',h1,h2⟩:=hs;refine(fC hx rfl).2 ?_;simp only[Int.toNat_natCast];cases n with
  | zero=>cases hr;exact .inr hh
  | succ n =>
   obtain⟨k,r1,r2⟩:=hr;exact .inl (hB (m+1) m' i k h1 hi r1 (aCO hle hB t m' k j n h2 (hle _ _ hi r1) (by omega) r2 hh))
theorem aBS {S R:Nat->Nat->Prop}{m e b:Nat}(hF:Fw c pts back S R)(hx:c.ins[m]?=some ⟨2,((m+1:Nat):Int),(b:Int)⟩)(hS:S (m+1) e)(hj:c.ins[e]?=some ⟨3,(m:Int),0⟩):∀h i,i<=pts.length->dI c h m (EJ pts back i)->∃n j h',j<=pts.length/\h'<=h/\iterM R n i j/\dI c h' b (EJ pts back j):=by
 intro h;induction h using Nat.strongRecOn with
 | ind h ih =>
  intro i hi hh;obtain⟨h0,rfl,hq⟩:=sS hx hh;rw[Int.toNat_natCast,Int.toNat_natCast]at hq;rcases hq with hh|hh
  ·obtain⟨j,h1,TA,hle,hr,Dc⟩:=hF (m+1) e i h0 hS hi hh;obtain⟨h2,rfl,uL⟩:=DW hj Dc;rw[Int.toNat_natCast]at uL;obtain⟨n,k,h3,hk,Im,jN,hh3⟩:=ih h2 (by omega) j TA uL;exact⟨n+1,k,h3,hk,by omega,⟨j,hr,jN⟩,hh3⟩
  exact⟨0,i,h0,hi,by omega,rfl,hh⟩
theorem O0 {S R:Nat->Nat->Prop}{m e b:Nat}(hle:∀i j,i<=pts.length->R i j->j<=pts.length)(hB:Bw c pts back S R)(hx:c.ins[m]?=some ⟨2,((m+1:Nat):Int),(b:Int)⟩)(hS:S (m+1) e)(hj:c.ins[e]?=some ⟨3,(m:Int),0⟩):∀n i j,i<=pts.length->iterM R n i j->Acc c b (EJ pts back j)->Acc c m (EJ pts back i)
 | 0,i,j,hi,hr,hh=>by
  cases hr;exact(fC hx rfl).2 (.inr (by simpa only[Int.toNat_natCast] using hh))
 | n+1,i,j,hi,⟨k,r1,r2⟩,hh=>by
  refine(fC hx rfl).2 (.inl ?_);simp only[Int.toNat_natCast];refine hB (m+1) e i k hS hi r1 ((gJ hj rfl).2 ?_);simp only[Int.toNat_natCast];exact O0 hle hB hx hS hj n k j (hle _ _ hi r1) r2 hh
theorem AP {i:Nat}{s:List Rg}(h:c.sets[i]?=some s):c.sets.getD ((i:Int)).toNat []=s:=by
 rw[Int.toNat_natCast,List.getD_eq_getElem?_getD,h];rfl
mutual
theorem qu:∀(back:Bool) (x:aF),aj x->Fw c pts back (iK has c back x) (dF has pts back x)
 | back,.one k,_,a,b,i,h,hs,hi,hh=>by
  simp only[iK]at hs;obtain⟨rfl,q,s,hx,hq,hp⟩:=hs;obtain⟨h',p,r,rfl,e,h1,h2⟩:=DX hx hh;rw[AP hq]at h1;rcases ux (back:=back) hi with ⟨_,e2⟩|⟨j,p',e1,e2⟩
  ·rw[e2]at e;cases e
  rw[e2]at e;cases e;exact⟨j,h',kW e1 hi,by omega,by simp only[dF];exact⟨_,e1,(hp _).1 h1⟩,h2⟩
 | back,.any,_,a,b,i,h,hs,hi,hh=>by
  simp only[iK]at hs;obtain⟨rfl,q,s,hx,hq,hp⟩:=hs;obtain⟨h',p,r,rfl,e,h1,h2⟩:=DX hx hh;rcases ux (back:=back) hi with ⟨_,e2⟩|⟨j,p',e1,e2⟩
  ·rw[e2]at e;cases e
  rw[e2]at e;cases e;exact⟨j,h',kW e1 hi,by omega,by simp only[dF];exact⟨_,e1⟩,h2⟩
 | back,.fY,_,a,b,i,h,hs,hi,hh=>by
  simp only[iK]at hs;obtain⟨rfl,hx⟩:=hs;obtain⟨h',rfl,e,h2⟩:=TU hx hh;rcases ux (back:=back) hi with ⟨e1,e2⟩|⟨j,p',e1,e2⟩
  ·exact⟨i,h',hi,by omega,by simp only[dF];exact⟨trivial,e1⟩,h2⟩
  rw[e2]at e;cases e
 | back,.cat l,bJ,a,b,i,h,hs,hi,hh=>by
  simp only[aj]at bJ;simp only[iK]at hs;simp only[dF];cases back with
  | true=>exact OU l bJ a b i h hs hi hh
  | false=>exact OW l bJ a b i h hs hi hh
 | back,.alt l,bJ,a,b,i,h,hs,hi,hh=>by
  simp only[aj]at bJ;simp only[iK]at hs;simp only[dF];exact OS back l bJ a b i h hs hi hh
 | back,.many x lo xM,bJ,a,b,i,h,hs,hi,hh=>by
  simp only[aj]at bJ;simp only[iK]at hs;simp only[uw];obtain⟨m,h1,h2⟩:=hs;obtain⟨j,h',hj,hle,hr,Dc⟩:=Nl (qu back x bJ.1) lo.toNat a m i h h1 hi hh;split at h2
  ·rename_i uN;obtain⟨hx,e,hS,Fv,rfl⟩:=h2;obtain⟨n,k,VN,hk,Im,jN,uL⟩:=aBS (qu back x bJ.1) hx hS Fv h' j hj Dc;exact⟨k,VN,hk,by omega,⟨lo.toNat+n,by omega,.inl uN,oL.2 ⟨j,hr,jN⟩⟩,uL⟩
  rename_i uN;obtain⟨n,k,VN,hn,hk,Im,jN,uL⟩:=aCP (qu back x bJ.1) (xM-lo).toNat m j h' h2 hj Dc;exact⟨k,VN,hk,by omega,⟨lo.toNat+n,by omega,.inr (by omega),oL.2 ⟨j,hr,jN⟩⟩,uL⟩
theorem OW:∀l:List aF,bz l->Fw c pts false (kJ has c false l) (iS has pts false l)
 | [],_,a,b,i,h,hs,hi,hh=>by simp only[kJ]at hs;subst hs;exact⟨i,h,hi,Nat.le_refl _,by simp only[iS],hh⟩
 | x::l,bJ,a,b,i,h,hs,hi,hh=>by
  simp only[bz]at bJ;simp only[kJ]at hs;obtain⟨m,h1,h2⟩:=hs;obtain⟨j,h',hj,hle,hr,Dc⟩:=qu false x bJ.1 a m i h h1 hi hh;obtain⟨k,VN,hk,Im,jN,uL⟩:=OW l bJ.2 m b j h' h2 hj Dc;exact⟨k,VN,hk,by omega,by simp only[iS];exact⟨j,hr,jN⟩,uL⟩
theorem OU:∀l:List aF,bz l->Fw c pts true (nX has c true l) (iq has pts true l)
 | [],_,a,b,i,h,hs,hi,hh=>by simp only[nX]at hs;subst hs;exact⟨i,h,hi,Nat.le_refl _,by simp only[iq],hh⟩
 | x::l,bJ,a,b,i,h,hs,hi,hh=>by
  simp only[bz]at bJ;simp only[nX]at hs;obtain⟨m,h1,h2⟩:=hs;obtain⟨j,h',hj,hle,hr,Dc⟩:=OU l bJ.2 a m i h h1 hi hh;obtain⟨k,VN,hk,Im,jN,uL⟩:=qu true x bJ.1 m b j h' h2 hj Dc;exact⟨k,VN,hk,by omega,by simp only[iq];exact⟨j,hr,jN⟩,uL⟩
theorem OS:∀(back:Bool) (l:List aF),bz l->Fw c pts back (lR has c back l) (nW has pts back l)
 | _,[],_,a,b,i,h,hs,hi,hh=>by simp only[lR]at hs
 | back,x::l,bJ,a,b,i,h,hs,hi,hh=>by
  simp only[bz]at bJ;simp only[lR]at hs;simp only[nW];rcases hs with ⟨rfl,hs⟩|⟨_,m,hx,h1,hj,h2⟩
  ·obtain⟨j,h',hj,hle,hr,Dc⟩:=qu back x bJ.1 a b i h hs hi hh;exact⟨j,h',hj,hle,.inl hr,Dc⟩
  obtain⟨h0,rfl,hq⟩:=sS hx hh;rw[Int.toNat_natCast,Int.toNat_natCast]at hq;rcases hq with hh|hh
  ·obtain⟨j,h',TA,hle,hr,Dc⟩:=qu back x bJ.1 (a+1) m i h0 h1 hi hh;obtain⟨h3,rfl,hh3⟩:=DW hj Dc;rw[Int.toNat_natCast]at hh3;exact⟨j,h3,TA,by omega,.inl hr,hh3⟩
  obtain⟨j,h',TA,hle,hr,Dc⟩:=OS back l bJ.2 (m+1) b i h0 h2 hi hh;exact⟨j,h',TA,by omega,.inr hr,Dc⟩
end
mutual
theorem qt (vO:∀p∈pts,0<=p/\p<=1114111):∀(back:Bool) (x:aF),aj x->Bw c pts back (iK has c back x) (dF has pts back x)
 | back,.one k,_,a,b,i,j,hs,hi,hr,hh=>by
  simp only[iK]at hs;simp only[dF]at hr;obtain⟨rfl,q,s,hx,hq,hp⟩:=hs;obtain⟨p,e1,h1⟩:=hr;refine(gi hx ⟨by simp,by simp,by simp,by simp⟩).2 ⟨p,_,rd_some hi e1,?_,hh⟩;dsimp only;rw[AP hq];exact(hp p).2 h1
 | back,.any,_,a,b,i,j,hs,hi,hr,hh=>by
  simp only[iK]at hs;simp only[dF]at hr;obtain⟨rfl,q,s,hx,hq,hp⟩:=hs;obtain⟨p,e1⟩:=hr;refine(gi hx ⟨by simp,by simp,by simp,by simp⟩).2 ⟨p,_,rd_some hi e1,?_,hh⟩;dsimp only;rw[AP hq]
  have:=vO p (YQ e1);exact hp p this.1 this.2
 | back,.fY,_,a,b,i,j,hs,hi,hr,hh=>by
  simp only[iK]at hs;simp only[dF]at hr;obtain⟨rfl,hx⟩:=hs;obtain⟨rfl,e1⟩:=hr;rcases ux (back:=back) hi with ⟨_,e2⟩|⟨j,p',e3,e2⟩
  ·exact(mu hx rfl).2 ⟨e2,hh⟩
  rw[e1]at e3;cases e3
 | back,.cat l,bJ,a,b,i,j,hs,hi,hr,hh=>by
  simp only[aj]at bJ;simp only[iK]at hs;simp only[dF]at hr;cases back with
  | true=>exact OT vO l bJ a b i j hs hi hr hh
  | false=>exact OV vO l bJ a b i j hs hi hr hh
 | back,.alt l,bJ,a,b,i,j,hs,hi,hr,hh=>by
  simp only[aj]at bJ;simp only[iK]at hs;simp only[dF]at hr;exact OR vO back l bJ a b i j hs hi hr hh
 | back,.many x lo xM,bJ,a,b,i,j,hs,hi,hr,hh=>by
  simp only[aj]at bJ;simp only[iK]at hs;simp only[uw]at hr;obtain⟨m,h1,h2⟩:=hs;obtain⟨n,Yl,hn2,hr⟩:=hr;have hle:∀i j,i<=pts.length->dF has pts back x i j->j<=pts.length:=λi j=>lI x;rw[show n=lo.toNat+(n-lo.toNat) by omega]at hr
  obtain⟨k,r1,r2⟩:=oL.1 hr;have hk:k<=pts.length:=uZ hle hi r1;refine Nk hle (qt vO back x bJ.1) lo.toNat a m i k h1 hi r1 ?_;split at h2
  ·obtain⟨hx,e,hS,Fv,rfl⟩:=h2;exact O0 hle (qt vO back x bJ.1) hx hS Fv _ k j hk r2 hh
  exact aCO hle (qt vO back x bJ.1) _ m k j _ h2 hk (by omega) r2 hh
theorem OV (vO:∀p∈pts,0<=p/\p<=1114111):∀l:List aF,bz l->Bw c pts false (kJ has c false l) (iS has pts false l)
 | [],_,a,b,i,j,hs,hi,hr,hh=>by simp only[kJ]at hs;simp only[iS]at hr;subst hs;subst hr;exact hh
 | x::l,bJ,a,b,i,j,hs,hi,hr,hh=>by
  simp only[bz]at bJ;simp only[kJ]at hs;simp only[iS]at hr;obtain⟨m,h1,h2⟩:=hs;obtain⟨k,r1,r2⟩:=hr;exact qt vO false x bJ.1 a m i k h1 hi r1 (OV vO l bJ.2 m b k j h2 (lI x hi r1) r2 hh)
theorem OT (vO:∀p∈pts,0<=p/\p<=1114111):∀l:List aF,bz l->Bw c pts true (nX has c true l) (iq has pts true l)
 | [],_,a,b,i,j,hs,hi,hr,hh=>by simp only[nX]at hs;simp only[iq]at hr;subst hs;subst hr;exact hh
 | x::l,bJ,a,b,i,j,hs,hi,hr,hh=>by
  simp only[bz]at bJ;simp only[nX]at hs;simp only[iq]at hr;obtain⟨m,h1,h2⟩:=hs;obtain⟨k,r1,r2⟩:=hr;exact OT vO l bJ.2 a m i k h1 hi r1 (qt vO true x bJ.1 m b k j h2 (uu l hi r1) r2 hh)
theorem OR (vO:∀p∈pts,0<=p/\p<=1114111):∀(back:Bool) (l:List aF),bz l->Bw c pts back (lR has c back l) (nW has pts back l)
 | _,[],_,a,b,i,j,hs,hi,hr,hh=>by simp only[lR]at hs
 | back,x::l,bJ,a,b,i,j,hs,hi,hr,hh=>by
  simp only[bz]at bJ;simp only[lR]at hs;simp only[nW]at hr;rcases hs with ⟨rfl,hs⟩|⟨_,m,hx,h1,hj,h2⟩
  ·rcases hr with hr|hr
   ·exact qt vO back x bJ.1 a b i j hs hi hr hh
   simp only[nW]at hr
  refine(fC hx rfl).2 ?_;simp only[Int.toNat_natCast];rcases hr with hr|hr
  ·exact .inl (qt vO back x bJ.1 (a+1) m i j h1 hi hr ((gJ hj rfl).2 (by simpa only[Int.toNat_natCast] using hh)))
  exact .inr (OR vO back l bJ.2 (m+1) b i j h2 hi hr hh)
end
theorem Md (vO:∀p∈pts,0<=p/\p<=1114111){x:aF}{b i:Nat}(bJ:aj x)(hs:iK has c back x 0 b)(hy:c.ins[b]?=some ⟨5,0,0⟩)(hi:i<=pts.length):Acc c 0 (EJ pts back i)↔nS has pts x i back:=by
 constructor
 ·rintro⟨h,hh⟩;obtain⟨j,h',_,_,hr,_⟩:=qu back x bJ 0 b i h hs hi hh;exact⟨j,hr⟩
 rintro⟨j,hr⟩;exact qt vO back x bJ 0 b i j hs hi hr (lS hy rfl)
end
mutual
def bK:aF->Nat
 | .one _=>1
 | .any=>1
 | .fY=>1
 | .cat l=>br l
 | .alt l=>fH l
 | .many x lo hi=>lo.toNat*bK x+if hi<0 then bK x+2 else (hi-lo).toNat*(bK x+1)
def br:List aF->Nat
 | []=>0
 | x::l=>bK x+br l
def fH:List aF->Nat
 | []=>0
 | x::l=>if l=[] then bK x else bK x+2+fH l
end
section
variable {has:ao->Int->Prop} {c c':aD} {back:Bool}
theorem qW {S:Nat->Nat->Prop}{k:Nat}(h:∀a b,S a b->b=a+k):∀n a b,iterM S n a b->b=a+n*k
 | 0,a,b,e=>by cases e;simp
 | n+1,a,b,⟨m,h1,h2⟩=>by
  have:=h a m h1
  have:=qW h n m b h2;rw[Nat.succ_mul];omega
theorem vj {S:Nat->Nat->Prop}{k e:Nat}(h:∀a b,S a b->b=a+k):∀t m,sL c S e t m->e=m+t*(k+1)
 | 0,m,e=>by cases e;simp
 | t+1,m,⟨_,m',h1,h2⟩=>by
  have:=h _ m' h1
  have:=vj h t m' h2;rw[Nat.succ_mul];omega
mutual
theorem fP:∀(x:aF) (a b:Nat),iK has c back x a b->b=a+bK x
 | .one k,a,b,h=>by simp only[iK]at h;exact h.1
 | .any,a,b,h=>by simp only[iK]at h;exact h.1
 | .fY,a,b,h=>by simp only[iK]at h;exact h.1
 | .cat l,a,b,h=>by
  simp only[iK]at h;split at h
  ·exact Be l a b h
  exact vC l a b h
 | .alt l,a,b,h=>by simp only[iK]at h;exact vB l a b h
 | .many x lo hi,a,b,h=>by
  simp only[iK]at h;obtain⟨m,h1,h2⟩:=h;have e1:=qW (λa b=>fP x a b) _ _ _ h1;simp only[bK];split at h2
  ·rename_i hn;obtain⟨_,e,h3,_,rfl⟩:=h2;have e2:=fP x _ _ h3;rw[if_pos hn];omega
  rename_i hn;have e2:=vj (λa b=>fP x a b) _ _ h2;rw[if_neg hn];omega
theorem vC:∀(l:List aF) (a b:Nat),kJ has c back l a b->b=a+br l
 | [],a,b,h=>by simp only[kJ]at h;simp only[br];omega
 | x::l,a,b,h=>by
  simp only[kJ]at h;obtain⟨m,h1,h2⟩:=h;have e1:=fP x _ _ h1;have e2:=vC l _ _ h2;simp only[br];omega
theorem Be:∀(l:List aF) (a b:Nat),nX has c back l a b->b=a+br l
 | [],a,b,h=>by simp only[nX]at h;simp only[br];omega
 | x::l,a,b,h=>by
  simp only[nX]at h;obtain⟨m,h1,h2⟩:=h;have e1:=Be l _ _ h1;have e2:=fP x _ _ h2;simp only[br];omega
theorem vB:∀(l:List aF) (a b:Nat),lR has c back l a b->b=a+fH l
 | [],a,b,h=>by simp only[lR]at h
 | x::l,a,b,h=>by
  simp only[lR]at h;simp only[fH];rcases h with ⟨rfl,h⟩|⟨dD,m,_,h1,_,h2⟩
  ·rw[if_pos rfl];exact fP x _ _ h
  have e1:=fP x _ _ h1;have e2:=vB l _ _ h2;rw[if_neg dD];omega
end
def eL (c c':aD)(a b:Nat):Prop:=(∀k,a<=k->k<b->c'.ins[k]?=c.ins[k]?)/\∀(i:Nat) (s:List Rg),c.sets[i]?=some s->c'.sets[i]?=some s
theorem eL.sub {a b a' b':Nat}(h:eL c c' a b)(h1:a<=a')(h2:b'<=b):eL c c' a' b':=⟨λk h3 h4=>h.1 k (by omega) (by omega),h.2⟩
theorem lq {S S':Nat->Nat->Prop}{k A B:Nat}(hl:∀a b,S a b->b=a+k)(h:∀a b,A<=a->b<=B->S a b->S' a b):∀n a b,A<=a->b<=B->iterM S n a b->iterM S' n a b
 | 0,a,b,_,_,e=>e
 | n+1,a,b,ha,hb,⟨m,h1,h2⟩=>by
  have e1:=hl a m h1;have e2:=qW hl n m b h2;exact⟨m,h a m ha (by omega) h1,lq hl h n m b (by omega) hb h2⟩
theorem N7 {S S':Nat->Nat->Prop}{k A B:Nat}(hl:∀a b,S a b->b=a+k)(h:∀a b,A<=a->b<=B->S a b->S' a b)(hc:∀k,A<=k->k<B->c'.ins[k]?=c.ins[k]?):∀t m,A<=m->sL c S B t m->sL c' S' B t m
 | 0,m,_,e=>e
 | t+1,m,hm,⟨hx,m',h1,h2⟩=>by
  have e1:=hl _ m' h1;have e2:=vj hl t m' h2;exact⟨by rw[hc m hm (by omega)];exact hx,m',h _ _ (by omega) (by omega) h1,N7 hl h hc t m' (by omega) h2⟩
mutual
theorem dU:∀(x:aF) (a b:Nat),eL c c' a b->iK has c back x a b->iK has c' back x a b
 | .one k,a,b,hs,h=>by
  simp only[iK]at h ⊢
  obtain⟨rfl,i,s,h1,h2,h3⟩:=h;exact⟨rfl,i,s,by rw[hs.1 a (by omega) (by omega)];exact h1,hs.2 i s h2,h3⟩
 | .any,a,b,hs,h=>by
  simp only[iK]at h ⊢
  obtain⟨rfl,i,s,h1,h2,h3⟩:=h;exact⟨rfl,i,s,by rw[hs.1 a (by omega) (by omega)];exact h1,hs.2 i s h2,h3⟩
 | .fY,a,b,hs,h=>by
  simp only[iK]at h ⊢
  obtain⟨rfl,h1⟩:=h;exact⟨rfl,by rw[hs.1 a (by omega) (by omega)];exact h1⟩
 | .cat l,a,b,hs,h=>by
  simp only[iK]at h ⊢
  by_cases hb:back=true
  ·rw[if_pos hb]at h ⊢;exact wO l a b hs h
  rw[if_neg hb]at h ⊢;exact wQ l a b hs h
 | .alt l,a,b,hs,h=>by simp only[iK]at h ⊢;exact EO l a b hs h
 | .many x lo hi,a,b,hs,h=>by
  simp only[iK]at h ⊢
  obtain⟨m,h1,h2⟩:=h;have hl:=λa b=>fP (has:=has) (c:=c) (back:=back) x a b;have e1:=qW hl _ _ _ h1;split at h2
  ·rename_i hn;obtain⟨hx,e,h3,h4,rfl⟩:=h2;have e2:=hl _ _ h3;refine⟨m,lq (A:=a) (B:=e+1) hl (λp q hp hq=>dU x p q (hs.sub hp hq)) _ _ _ (Nat.le_refl _) (by omega) h1,?_⟩;rw[if_pos hn];exact⟨by rw[hs.1 m (by omega) (by omega)];exact hx,e,dU x _ _ (hs.sub (by omega) (by omega)) h3,by rw[hs.1 e (by omega) (by omega)];exact h4,rfl⟩
  rename_i hn;have e2:=vj hl _ _ h2;refine⟨m,lq (A:=a) (B:=b) hl (λp q hp hq=>dU x p q (hs.sub hp hq)) _ _ _ (Nat.le_refl _) (by omega) h1,?_⟩;rw[if_neg hn];exact N7 (A:=m) hl (λp q hp hq=>dU x p q (hs.sub (by omega) hq)) (λk h3 h4=>hs.1 k (by omega) h4) _ _ (Nat.le_refl _) h2
theorem wQ:∀(l:List aF) (a b:Nat),eL c c' a b->kJ has c back l a b->kJ has c' back l a b
 | [],a,b,hs,h=>by simp only[kJ]at h ⊢;exact h
 | x::l,a,b,hs,h=>by
  simp only[kJ]at h ⊢
  obtain⟨m,h1,h2⟩:=h;have e1:=fP x _ _ h1;have e2:=vC l _ _ h2;exact⟨m,dU x _ _ (hs.sub (by omega) (by omega)) h1,wQ l _ _ (hs.sub (by omega) (by omega)) h2⟩
theorem wO:∀(l:List aF) (a b:Nat),eL c c' a b->nX has c back l a b->nX has c' back l a b
 | [],a,b,hs,h=>by simp only[nX]at h ⊢;exact h
 | x::l,a,b,hs,h=>by
  simp only[nX]at h ⊢
  obtain⟨m,h1,h2⟩:=h;have e1:=Be l _ _ h1;have e2:=fP x _ _ h2;exact⟨m,wO l _ _ (hs.sub (by omega) (by omega)) h1,dU x _ _ (hs.sub (by omega) (by omega)) h2⟩
theorem EO:∀(l:List aF) (a b:Nat),eL c c' a b->lR has c back l a b->lR has c' back l a b
 | [],a,b,hs,h=>by simp only[lR]at h
 | x::l,a,b,hs,h=>by
  simp only[lR]at h ⊢
  rcases h with ⟨rfl,h⟩|⟨dD,m,hx,h1,hj,h2⟩
  ·exact .inl ⟨rfl,dU x _ _ hs h⟩
  have e1:=fP x _ _ h1;have e2:=vB l _ _ h2;exact .inr ⟨dD,m,by rw[hs.1 a (by omega) (by omega)];exact hx,dU x _ _ (hs.sub (by omega) (by omega)) h1,by rw[hs.1 m (by omega) (by omega)];exact hj,EO l _ _ (hs.sub (by omega) (by omega)) h2⟩
end
def de (c:aD)(a b n:Nat):Prop:=∀k,a<=k->k<b->∃x,c.ins[k]?=some x/\bP x c.sets.length n=true
theorem de.join {a b d n:Nat}(h1:de c a b n)(h2:de c b d n):de c a d n:=λk h3 h4=>by
 by_cases h:k<b
 ·exact h1 k h3 h
 exact h2 k (by omega) h4
theorem de.one {a n:Nat}{x:I3}(h:c.ins[a]?=some x)(hr:bP x c.sets.length n=true):de c a (a+1) n:=λk h1 h2=>by
 obtain rfl:k=a:=by omega
 exact⟨x,h,hr⟩
theorem qn {a b s n:Nat}(h1:a<n)(h2:b<n):bP ⟨2,(a:Int),(b:Int)⟩ s n=true:=by
 unfold bP;rw[if_neg (by simp),if_pos rfl,decide_eq_true_iff];dsimp only;omega
theorem B0 {a s n:Nat}(h1:a<n):bP ⟨3,(a:Int),0⟩ s n=true:=by
 unfold bP;rw[if_neg (by simp),if_neg (by simp),if_pos rfl,decide_eq_true_iff];dsimp only;omega
theorem B7 {a s n:Nat}(h1:a<s):bP ⟨1,(a:Int),0⟩ s n=true:=by
 unfold bP;rw[if_pos rfl,decide_eq_true_iff];dsimp only;omega
theorem Rz {s n:Int}:bP ⟨4,0,0⟩ s n=true:=by
 unfold bP;rw[if_neg (by decide),if_neg (by decide),if_neg (by decide),if_pos (by decide)];rfl
theorem SA {s n:Int}:bP ⟨5,0,0⟩ s n=true:=by
 unfold bP;rw[if_neg (by decide),if_neg (by decide),if_neg (by decide),if_pos (by decide)];rfl
theorem tC {S:Nat->Nat->Prop}{k n:Nat}(hl:∀a b,S a b->b=a+k)(h:∀a b,b<n->S a b->de c a b n):∀t a b,b<n->iterM S t a b->de c a b n
 | 0,a,b,_,e=>by cases e;intro k h1 h2;omega
 | t+1,a,b,hb,⟨m,h1,h2⟩=>by
  have e2:=qW hl t m b h2;exact(h a m (by omega) h1).join (tC hl h t m b hb h2)
theorem Ih {S:Nat->Nat->Prop}{k e n:Nat}(hl:∀a b,S a b->b=a+k)(h:∀a b,b<n->S a b->de c a b n)(he:e<n):∀t m,sL c S e t m->de c m e n
 | 0,m,e=>by cases e;intro k h1 h2;omega
 | t+1,m,⟨hx,m',h1,h2⟩=>by
  have e1:=hl _ m' h1;have e2:=vj hl t m' h2;exact(de.one hx (qn (by omega) he)).join ((h _ m' (by omega) h1).join (Ih hl h he t m' h2))
mutual
theorem iI:∀(x:aF) (a b n:Nat),b<n->iK has c back x a b->de c a b n
 | .one k,a,b,n,hn,h=>by
  simp only[iK]at h;obtain⟨rfl,i,s,h1,h2,h3⟩:=h;exact de.one h1 (B7 (List.getElem?_eq_some_iff.1 h2).1)
 | .any,a,b,n,hn,h=>by
  simp only[iK]at h;obtain⟨rfl,i,s,h1,h2,h3⟩:=h;exact de.one h1 (B7 (List.getElem?_eq_some_iff.1 h2).1)
 | .fY,a,b,n,hn,h=>by
  simp only[iK]at h;obtain⟨rfl,h1⟩:=h;exact de.one h1 Rz
 | .cat l,a,b,n,hn,h=>by
  simp only[iK]at h;split at h
  ·exact Bf l a b n hn h
  exact Bg l a b n hn h
 | .alt l,a,b,n,hn,h=>by simp only[iK]at h;exact Bd l a b n hn h
 | .many x lo hi,a,b,n,hn,h=>by
  simp only[iK]at h;obtain⟨m,h1,h2⟩:=h;have hl:=λa b=>fP (has:=has) (c:=c) (back:=back) x a b;split at h2
  ·obtain⟨hx,e,h3,h4,rfl⟩:=h2;have e2:=hl _ _ h3;exact(tC hl (λp q hq=>iI x p q n hq) _ _ _ (by omega) h1).join ((de.one hx (qn (by omega) (by omega))).join ((iI x _ _ n (by omega) h3).join (de.one h4 (B0 (by omega)))))
  have e2:=vj hl _ _ h2;exact(tC hl (λp q hq=>iI x p q n hq) _ _ _ (by omega) h1).join (Ih hl (λp q hq=>iI x p q n hq) hn _ _ h2)
theorem Bg:∀(l:List aF) (a b n:Nat),b<n->kJ has c back l a b->de c a b n
 | [],a,b,n,hn,h=>by simp only[kJ]at h;subst h;intro k h1 h2;omega
 | x::l,a,b,n,hn,h=>by
  simp only[kJ]at h;obtain⟨m,h1,h2⟩:=h;have e2:=vC l _ _ h2;exact(iI x _ _ n (by omega) h1).join (Bg l _ _ n hn h2)
theorem Bf:∀(l:List aF) (a b n:Nat),b<n->nX has c back l a b->de c a b n
 | [],a,b,n,hn,h=>by simp only[nX]at h;subst h;intro k h1 h2;omega
 | x::l,a,b,n,hn,h=>by
  simp only[nX]at h;obtain⟨m,h1,h2⟩:=h;have e2:=fP x _ _ h2;exact(Bf l _ _ n (by omega) h1).join (iI x _ _ n hn h2)
theorem Bd:∀(l:List aF) (a b n:Nat),b<n->lR has c back l a b->de c a b n
 | [],a,b,n,hn,h=>by simp only[lR]at h
 | x::l,a,b,n,hn,h=>by
  simp only[lR]at h;rcases h with ⟨rfl,h⟩|⟨dD,m,hx,h1,hj,h2⟩
  ·exact iI x _ _ n hn h
  have e1:=fP x _ _ h1;have e2:=vB l _ _ h2;exact(de.one hx (qn (by omega) (by omega))).join ((iI x _ _ n (by omega) h1).join ((de.one hj (B0 hn)).join (Bd l _ _ n hn h2)))
end
end
mutual
def cX:aF->Prop
 | .one _=>True
 | .any=>True
 | .fY=>True
 | .cat l=>gC l
 | .alt l=>l≠[]/\gC l
 | .many x _ _=>cX x
def gC:List aF->Prop
 | []=>True
 | x::l=>cX x/\gC l
end
theorem qi:∀{l:List aF} {x:aF},gC l->cX x->gC (l++[x])
 | [],x,_,h=>by simp only[List.nil_append,gC];exact⟨h,trivial⟩
 | y::l,x,hl,h=>by
  simp only[gC,List.cons_append]at hl ⊢
  exact⟨hl.1,qi hl.2 h⟩
theorem uk (d:Nat):∀(n c:Nat) (x:aF),cX x->Iv cX (bW d n c x)
 | 0,_,_,_=>Iv.fail
 | n+1,c,x,hx=>Iv.pb Dm λr hr=>by
   cases r with
   | none=>exact Iv.pr hx
   | some q =>
    refine Iv.ite (λ_=>Iv.fail) λ_=>uk d n (c+1) _ ?_;simp only[cX];exact hx
theorem RQ {d:Nat}{unit:Pa aF}(h:Iv cX unit):Iv cX (aV d unit):=Iv.pb h λx hx=>uk d _ _ _ hx
theorem BG {again:Pa aF}(h:Iv cX again):∀(n:Nat) (a:List aF),gC a->Iv gC (bI again n a)
 | 0,_,_=>Iv.fail
 | n+1,a,ha=>Iv.ay (Iv.pb h λx hx=>BG h n _ (qi ha hx)) (Iv.pr ha)
theorem Xx {l:List aF}(h:gC l):cX (rowOf l):=by
 match l with
 | []=>simp only[rowOf,cX];exact h
 | [x]=>simp only[gC]at h;exact h.1
 | x::y::l=>simp only[rowOf,cX];exact h
theorem TZ {l:List aF}(h:l≠[]/\gC l):cX (jT l):=by
 match l with
 | []=>exact absurd rfl h.1
 | [x]=>have h:=h.2;simp only[gC]at h;exact h.1
 | x::y::l=>simp only[jT,cX];exact h
theorem aBp {again:Pa aF}(h:Iv cX again):Iv cX (iR again):=Iv.pb (BG h _ _ (by simp only[gC])) λps xU=>Iv.pr (Xx xU)
theorem BF {row:Pa aF}(h:Iv cX row):∀(n:Nat) (a:List aF),a≠[]/\gC a->Iv (λa=>a≠[]/\gC a) (eV row n a)
 | 0,_,_=>Iv.fail
 | n+1,a,ha=>Iv.ay (Iv.pb Iv.pop λ_ _=>Iv.pb h λx hx=>BF h n _ ⟨by simp,qi ha.2 hx⟩) (Iv.pr ha)
theorem aBn {row:Pa aF}(h:Iv cX row):Iv cX (Kt row):=Iv.pb h λx hx=>Iv.pb (BF h _ _ ⟨by simp,by simp only[gC];exact⟨hx,trivial⟩⟩) λps xU=>Iv.pr (TZ xU)
theorem OD {d:Nat}{unit:Pa aF}(h:Iv cX unit):Iv cX (BQ d unit):=Iv.ite (λ_=>Iv.fail) λ_=>aBn (aBp (RQ h))
theorem OE:∀d,Iv cX (aq d)
 | 0=>Iv.fail
 | d+1=>Iv.ay (Iv.pb Iv.pop λ_ _=>Iv.pr (by simp only[cX])) (Iv.ay (Iv.pb Iv.pop λ_ _=>Iv.pr (by simp only[cX]))
   (Iv.ay (Iv.pb Iv.pop λ_ _=>Iv.pb (OD (OE d)) λx hx=>Iv.pb (fj _) λ_ _=>Iv.pr hx)
    (Iv.ay (Iv.pb (Am (d+1)) λk hk=>Iv.pr (by simp only[cX])) Iv.fail)))
theorem XE (d:Nat):Iv cX (qh d):=OD (OE d)
theorem aBq:Iv (λr=>cX r.before/\cX r.after) lO:=Iv.pb Iv.dW λt _=>Iv.pb yq λb _=>Iv.pb (XE 9) λx hx=>Iv.pb (fj _) λ_ _=>Iv.pb (XE 9) λy hy=>Iv.pb (fj _) λ_ _=>Iv.pr ⟨hx,hy⟩
theorem xi:∀(n:Nat) (acc:List cD),(∀r∈acc,cX r.before/\cX r.after)->Iv (λl=>∀r∈l,cX r.before/\cX r.after) (bR n acc)
 | 0,_,_=>Iv.fail
 | n+1,acc,ha=>Iv.ay (Iv.ite (λ_=>Iv.fail) λh=>Iv.pb aBq λr hr=>xi n _ (λx hx=>by
   rcases List.mem_append.1 hx with hx|hx
   ·exact ha x hx
   rw[List.mem_singleton.1 hx];exact hr)) (Iv.pr ha)
theorem aBo:Iv (λf=>∀r∈f.rules,cX r.before/\cX r.after) jB:=Iv.pb (pG _ _ ⟨by simp,by simp⟩) λcs iW=>Iv.pb (xi _ _ (by simp)) λrs jO =>
 Iv.pb (I:=Tv) (λl x l' hl e=>⟨trivial,(show Iv Tv oD from Iv.ay (Iv.pb Iv.pop λ_ _=>Iv.pb yq λ_ _=>Iv.pb (fj _) λ_ _=>Iv.pr trivial) (Iv.pr trivial)) l x l' hl e |>.2⟩) λb _=>Iv.pr jO
section
variable (has:ao->Int->Prop) (c:aD) (back:Bool)
def mB:List aF->Nat->List Nat->Nat->Prop
 | [],a,js,b=>js=[]/\a=b
 | x::l,a,js,b=>∃j js',js=j::js'/\c.ins[a]?=some ⟨2,((a+1:Nat):Int),((j+1:Nat):Int)⟩/\iK has c back x (a+1) j/\c.ins[j]?=some ⟨3,0,0⟩/\mB l (j+1) js' b
end
section
variable {has:ao->Int->Prop} {c c':aD} {back:Bool}
theorem Jr:∀(l m:List aF) (a b d:Nat) (js ks:List Nat),mB has c back l a js b->mB has c back m b ks d->mB has c back (l++m) a (js++ks) d
 | [],m,a,b,d,js,ks,h1,h2=>by
  simp only[mB]at h1;obtain⟨rfl,rfl⟩:=h1;exact h2
 | x::l,m,a,b,d,js,ks,h1,h2=>by
  simp only[mB]at h1;obtain⟨j,js',rfl,h3,h4,h5,h6⟩:=h1;simp only[List.cons_append,mB];exact⟨j,_,rfl,h3,h4,h5,Jr l m (j+1) b d js' ks h6 h2⟩
theorem vD:∀(l:List aF) (a b:Nat) (js:List Nat),mB has c back l a js b->a<=b/\∀j∈js,a<j/\j<b
 | [],a,b,js,h=>by
  simp only[mB]at h;obtain⟨rfl,rfl⟩:=h;exact⟨Nat.le_refl _,λj hj=>by cases hj⟩
 | x::l,a,b,js,h=>by
  simp only[mB]at h;obtain⟨j,js',rfl,h3,h4,h5,h6⟩:=h;have e:=fP x _ _ h4;obtain⟨e1,e2⟩:=vD l _ _ _ h6;refine⟨by omega,λk hk=>?_⟩;rcases List.mem_cons.1 hk with rfl|hk
  ·exact⟨by omega,by omega⟩
  have:=e2 k hk;exact⟨by omega,by omega⟩
theorem wR:∀(l:List aF) (a b:Nat) (js:List Nat),eL c c' a b->mB has c back l a js b->mB has c' back l a js b
 | [],a,b,js,hs,h=>by simp only[mB]at h ⊢;exact h
 | x::l,a,b,js,hs,h=>by
  have fT:=vD (x::l) a b js h;simp only[mB]at h ⊢
  obtain⟨j,js',rfl,h3,h4,h5,h6⟩:=h;have hj:=fT.2 j (List.mem_cons_self ..);exact⟨j,js',rfl,by rw[hs.1 a (by omega) (by omega)];exact h3,dU x _ _ (hs.sub (by omega) (by omega)) h4,by rw[hs.1 j (by omega) (by omega)];exact h5,wR l _ _ _ (hs.sub (by omega) (Nat.le_refl _)) h6⟩
structure kK (c c':aD)(ks:List Nat)(g:I3->I3):Prop where
 ins:∀k,c'.ins[k]?=if k∈ks then (c.ins[k]?).map g else c.ins[k]?
 sets:c'.sets=c.sets
theorem kK.same {ks:List Nat}{g:I3->I3}(h:kK c c' ks g){a b:Nat}(hk:∀k∈ks,k<a\/b<=k):eL c c' a b :=
 ⟨λk h1 h2=>by rw[h.ins k,if_neg (λhm=>by have:=hk k hm;omega)],λi s hs=>by rw[h.sets];exact hs⟩
theorem kK.nil (c:aD)(g:I3->I3):kK c c [] g:=⟨λk=>by simp,rfl⟩
theorem kK.len {ks:List Nat}{g:I3->I3}(h:kK c c' ks g):c'.ins.length=c.ins.length:=by
 have key:∀k,c'.ins[k]?=none↔c.ins[k]?=none:=λk=>by
  rw[h.ins k];by_cases hm:k∈ks
  ·rw[if_pos hm,Option.map_eq_none_iff]
  rw[if_neg hm]
 have h1:=key c.ins.length;have h2:=key c'.ins.length;simp only[List.getElem?_eq_none_iff]at h1 h2;omega
theorem kK.step {ks:List Nat}{g:I3->I3}(hg:∀x,g (g x)=g x)(h:kK c c' ks g){k:Nat}{x:I3}(hx:c'.ins[k]?=some x):kK c ⟨c'.sets,c'.ins.set k (g x)⟩ (ks++[k]) g :=
 ⟨λj=>by
  show (c'.ins.set k (g x))[j]?=_
  rw[List.getElem?_set];have aw:=(List.getElem?_eq_some_iff.1 hx).1;by_cases hj:k=j
  ·subst hj;rw[if_pos rfl,if_pos aw,if_pos (by simp)];have h1:=h.ins k;rw[hx]at h1;by_cases hm:k∈ks
   ·rw[if_pos hm]at h1;cases hc:c.ins[k]? with
    | none=>rw[hc]at h1;cases h1
    | some y =>
     rw[hc]at h1;simp only[Option.map_some,Option.some.injEq]at h1 ⊢
     rw[h1,hg]
   rw[if_neg hm]at h1;rw[<-h1];rfl
  rw[if_neg hj,h.ins j];have:(j∈ks++[k])↔j∈ks:=by simp;omega
  simp only[this],h.sets⟩
theorem YE {y:aF}:∀(l:List aF) (a m e:Nat) (js:List Nat),kK c c' js (λx=>⟨x.op,(e:Int),x.b⟩)->mB has c back l a js m->iK has c back y m e->(∀k∈js,k<e)->lR has c' back (l++[y]) a e:=by
 intro l a m e js hT;have key:∀(l:List aF) (a:Nat) (ks:List Nat),(∀k∈ks,k∈js)->(∀k∈js,k∈ks\/k<a)->mB has c back l a ks m->iK has c back y m e->lR has c' back (l++[y]) a e:=by
  intro l;induction l with
  | nil =>
   intro a ks h1 h2 h3 h4;simp only[mB]at h3;obtain⟨rfl,rfl⟩:=h3;simp only[List.nil_append,lR];refine .inl ⟨trivial,dU y _ _ (hT.same λk hk=>?_) h4⟩;rcases h2 k hk with h|h
   ·cases h
   exact .inl h
  | cons x l ih =>
   intro a ks h1 h2 h3 h4;have fT:=vD (x::l) a m ks h3;simp only[mB]at h3;obtain⟨j,js',rfl,h5,h6,h7,h8⟩:=h3;have Vy:=vD l _ _ _ h8;have hlen:=fP x _ _ h6;simp only[List.cons_append,lR];refine .inr ⟨by simp,j,?_,dU x _ _ (hT.same λk hk=>?_) h6,?_,ih (j+1) js' (λk hk=>h1 k (List.mem_cons_of_mem _ hk)) (λk hk=>?_) h8 h4⟩
   ·rw[hT.ins a,if_neg (λhm=>?_)]
    ·exact h5
    rcases h2 a hm with h|h
    ·have:=(fT.2 a h).1;omega
    omega
   ·rcases h2 k hk with h|h
    ·rcases List.mem_cons.1 h with rfl|h
     ·exact .inr (Nat.le_refl _)
     have:=(Vy.2 k h).1;exact .inr (by omega)
    exact .inl (by omega)
   ·rw[hT.ins j,if_pos (h1 j (List.mem_cons_self ..)),h7];rfl
   rcases h2 k hk with h|h
   ·rcases List.mem_cons.1 h with rfl|h
    ·exact .inr (by omega)
    exact .inl h
   exact .inr (by omega)
 intro h3 h4 _;exact key l a js (λk h=>h) (λk h=>.inl h) h3 h4
def nY (c:aD)(S:Nat->Nat->Prop):Nat->Nat->List Nat->Nat->Prop
 | 0,m,ks,e=>ks=[]/\m=e
 | t+1,m,ks,e=>∃Qv,ks=m::Qv/\c.ins[m]?=some ⟨2,((m+1:Nat):Int),0⟩/\∃m',S (m+1) m'/\nY c S t m' Qv e
theorem EV {S:Nat->Nat->Prop}{e e':Nat}(hx:c.ins[e]?=some ⟨2,((e+1:Nat):Int),0⟩)(hS:S (e+1) e'):∀(t m:Nat) (ks:List Nat),nY c S t m ks e->nY c S (t+1) m (ks++[e]) e'
 | 0,m,ks,h=>by
  simp only[nY]at h;obtain⟨rfl,rfl⟩:=h;simp only[List.nil_append,nY];exact⟨[],rfl,hx,e',hS,rfl,rfl⟩
 | t+1,m,ks,h=>by
  rw[nY]at h;obtain⟨Qv,rfl,h1,m',h2,h3⟩:=h;rw[List.cons_append,nY];exact⟨_,rfl,h1,m',h2,EV hx hS t m' Qv h3⟩
theorem yz {S:Nat->Nat->Prop}{k e:Nat}(hl:∀a b,S a b->b=a+k):∀(t m:Nat) (ks:List Nat),nY c S t m ks e->e=m+t*(k+1)/\∀j∈ks,m<=j/\j<e
 | 0,m,ks,h=>by
  simp only[nY]at h;obtain⟨rfl,rfl⟩:=h;exact⟨by simp,λj hj=>by cases hj⟩
 | t+1,m,ks,h=>by
  rw[nY]at h;obtain⟨Qv,rfl,h1,m',h2,h3⟩:=h;have e1:=hl _ _ h2;obtain⟨e2,e3⟩:=yz hl t m' Qv h3;refine⟨by rw[Nat.succ_mul];omega,λj hj=>?_⟩;rcases List.mem_cons.1 hj with rfl|hj
  ·exact⟨Nat.le_refl _,by omega⟩
  have:=e3 j hj;exact⟨by omega,this.2⟩
theorem EU {S S':Nat->Nat->Prop}{k e A:Nat}(hl:∀a b,S a b->b=a+k)(h:∀a b,A<=a->b<=e->S a b->S' a b)(hs:eL c c' A e):∀(t m:Nat) (ks:List Nat),A<=m->nY c S t m ks e->nY c' S' t m ks e
 | 0,m,ks,_,hh=>hh
 | t+1,m,ks,hA,hh=>by
  rw[nY]at hh ⊢
  obtain⟨Qv,rfl,h1,m',h2,h3⟩:=hh;have e1:=hl _ _ h2;have e2:=(yz hl t m' Qv h3).1;have e4:0<=t*(k+1):=Nat.zero_le _;exact⟨Qv,rfl,by rw[hs.1 m hA (by omega)];exact h1,m',h _ _ (by omega) (by omega) h2,EU hl h hs t m' Qv (by omega) h3⟩
theorem OX {S S':Nat->Nat->Prop}{k e:Nat}{js:List Nat}(hl:∀a b,S a b->b=a+k)(hT:kK c c' js (λx=>⟨x.op,x.a,(e:Int)⟩))(h:∀a b,S a b->(∀j∈js,j<a\/b<=j)->S' a b):∀(t m:Nat) (ks:List Nat),(∀j∈ks,j∈js)->(∀j∈js,j∈ks\/j<m)->nY c S t m ks e->sL c' S' e t m
 | 0,m,ks,_,_,hh=>by
  simp only[nY]at hh;exact hh.2
 | t+1,m,ks,h1,h2,hh=>by
  rw[nY]at hh;obtain⟨Qv,rfl,h3,m',h4,h5⟩:=hh;have e1:=hl _ _ h4;have fT:=(yz hl t m' Qv h5).2;refine⟨?_,m',h _ _ h4 (λj hj=>?_),OX hl hT h t m' Qv (λj hj=>h1 j (List.mem_cons_of_mem _ hj)) (λj hj=>?_) h5⟩
  ·rw[hT.ins m,if_pos (h1 m (List.mem_cons_self ..)),h3];rfl
  ·rcases h2 j hj with h|h
   ·rcases List.mem_cons.1 h with rfl|h
    ·exact .inl (by omega)
    have:=(fT j h).1;exact .inr (by omega)
   exact .inl (by omega)
  rcases h2 j hj with h|h
  ·rcases List.mem_cons.1 h with rfl|h
   ·exact .inr (by omega)
   exact .inl h
  exact .inr (by omega)
end
end Cae
namespace Go.Proofs.YtledlfbbebodgaaGreatDoor
open Go.Vc Go.Proofs Go.RowKit Cae
attribute [local irreducible] dd ae ak a7 runK bE Sl Vc.Own vc aU cJ a8
theorem XZ {s:List UInt8}{f:dw}(hs:s.length<=1000000)(h:eO s=.ok f):∀r∈f.rules,cX r.before/\cX r.after:=by
 unfold eO at h;split at h
 ·cases h
 rename_i l hl;have Kf:=YV hs hl;split at h
 ·cases h
 rename_i f' l' hf;split at h
 ·cases h;exact(aBo _ _ _ Kf.txt hf).1
 cases h
end Go.Proofs.YtledlfbbebodgaaGreatDoor
end
section
namespace Cae
def ot (l:List Tok):Nat:=(l.map λt=>t.text.length).sum
structure Tw (fG:List (List UInt8))(l:List Tok):Prop where
 pos:∀t∈l,t.kind≠5->1<=t.text.length
 fG:∀t∈l,t.text ∉ fG
theorem Tw.tail {fG:List (List UInt8)}{t:Tok}{l:List Tok}(h:Tw fG (t::l)):Tw fG l:=⟨λx hx=>h.pos x (List.mem_cons_of_mem _ hx),λx hx=>h.fG x (List.mem_cons_of_mem _ hx)⟩
def Cw (fG:List (List UInt8)){α:Type}(Q:α->Nat->Prop)(p:Pa α):Prop:=∀l x l',Tw fG l->p l=.ok (x,l')->Tw fG l'/\∃d,ot l=d+ot l'/\Q x d
section
variable {fG:List (List UInt8)} {α β:Type} {Q:α->Nat->Prop} {R:β->Nat->Prop} {p:Pa α} {q:α->Pa β}
theorem Cw.pr {x:α}(h:Q x 0):Cw fG Q (pr x):=λl y l' hl e=>by cases e;exact⟨hl,0,by omega,h⟩
theorem Cw.fail {e:Nat}:Cw fG Q (dr e):=λl y l' _ h=>by cases h
theorem Cw.iA {Q':α->Nat->Prop}(h:Cw fG Q p)(hm:∀x d,Q x d->Q' x d):Cw fG Q' p:=λl x l' hl e=>by
 obtain⟨h1,d,h2,h3⟩:=h l x l' hl e;exact⟨h1,d,h2,hm x d h3⟩
theorem Cw.pb (h:Cw fG Q p)(k:∀x d,Q x d->Cw fG (λy e=>R y (d+e)) (q x)):Cw fG R (pb p q):=λl y l' hl e=>by
 obtain⟨x,l1,e1,e2⟩:=dq e;obtain⟨h1,d,h2,h3⟩:=h l x l1 hl e1;obtain⟨h4,d',h5,h6⟩:=k x d h3 l1 y l' h1 e2;exact⟨h4,d+d',by omega,h6⟩
theorem Cw.ay {cc:List Tok->Bool}{p1 p2:Pa α}(h1:Cw fG Q p1)(h2:Cw fG Q p2):Cw fG Q (ay cc p1 p2):=λl x l' hl e=>by
 unfold Cae.ay at e;split at e
 ·exact h1 l x l' hl e
 exact h2 l x l' hl e
theorem Cw.aJ7 {m:List UInt8}{p1 p2:Pa α}(hm:m∈fG)(h2:Cw fG Q p2):Cw fG Q (Cae.ay (dT m) p1 p2):=λl x l' hl e=>by
 unfold Cae.ay at e;split at e
 ·rename_i hs;exfalso;unfold dT at hs;rw[Bool.and_eq_true]at hs;cases l with
  | nil=>simp[hd]at hs
  | cons t r =>
   have h1:t.text=m:=by simpa[hd] using hs.2
   exact hl.fG t (List.mem_cons_self ..) (h1▸hm)
 exact h2 l x l' hl e
theorem Cw.ite {c:Prop}[Decidable c]{p1 p2:Pa α}(h1:c->Cw fG Q p1)(h2:¬c->Cw fG Q p2):Cw fG Q (if c then p1 else p2):=by
 by_cases h:c
 ·rw[if_pos h];exact h1 h
 rw[if_neg h];exact h2 h
end
section
variable {fG:List (List UInt8)}
def Dv (n:Nat){α:Type}(_:α)(d:Nat):Prop:=n<=d
theorem Cw.dW:Cw fG (Dv 0) dW:=λl x l' hl e=>by cases e;exact⟨hl,0,by omega,Nat.le_refl _⟩
theorem Cw.pop:Cw fG (Dv 1) cM:=λl x l' hl e=>by
 obtain⟨t,rfl,hk⟩:=tH e;refine⟨hl.tail,t.text.length,by simp[ot],hl.pos t (List.mem_cons_self ..) hk⟩
theorem jW (s:List UInt8):Cw fG (Dv 1) (dB s):=Cw.ay Cw.pop Cw.fail
theorem dK {α β:Type}{p:Pa α}{q:α->Pa β}{n m:Nat}(h:Cw fG (Dv n) p)(k:∀x,Cw fG (Dv m) (q x)):Cw fG (Dv (n+m)) (pb p q) :=
 Cw.pb h λx d hd=>(k x).iA λy e he=>by show n+m<=d+e;exact Nat.add_le_add hd he
theorem fI {α:Type}{p:Pa α}{n m:Nat}(h:Cw fG (Dv n) p)(hm:m<=n):Cw fG (Dv m) p:=h.iA λ_ _ hd=>Nat.le_trans hm hd
theorem NQ:Cw fG (Dv 1) mX:=Cw.ay (Cw.ay Cw.fail (dK (n:=0) (m:=1) Cw.dW λt=>dK (n:=1) (m:=0) Cw.pop λ_=>Cw.pr (Nat.le_refl _))) Cw.fail
theorem aDB:Cw fG (Dv 0) tj :=
 Cw.ay (fI (dK (n:=1) (m:=0) Cw.pop λ_=>Cw.pr (Nat.le_refl _)) (by omega)) (Cw.ay (fI (dK (n:=1) (m:=0) Cw.pop λ_=>Cw.pr (Nat.le_refl _)) (by omega)) (Cw.ay (fI (dK (n:=1) (m:=0) Cw.pop λ_=>Cw.pr (Nat.le_refl _)) (by omega)) (Cw.pr (Nat.le_refl _))))
theorem xG {one:Pa ao}(h:Cw fG (Dv 1) one)(pos:Nat):∀(n:Nat) (k:ao),Cw fG (Dv 0) (dM one pos n k)
 | 0,_=>Cw.fail
 | n+1,k=>fI (dK (n:=0) (m:=0) aDB λc=>Cw.ite (λ_=>Cw.pr (Nat.le_refl _)) λ_=>fI (dK (n:=1) (m:=0) h λr=>xG h pos n _) (by omega)) (by omega)
theorem He {one:Pa ao}(h:Cw fG (Dv 1) one):Cw fG (Dv 1) (sG one):=dK (n:=0) (m:=1) Cw.dW λt=>dK (n:=1) (m:=0) h λk=>xG h _ _ _
theorem aDC:Cw fG (Dv 1) GP:=dK (n:=0) (m:=1) Cw.dW λt=>by
 split
 ·exact Cw.fail
 exact dK (n:=1) (m:=0) Cw.pop λ_=>Cw.pr (Nat.le_refl _)
theorem FE:∀d,Cw fG (Dv 1) (lH d)
 | 0=>Cw.fail
 | d+1=>Cw.ay aDC (Cw.ay (dK (n:=0) (m:=1) Cw.dW λt=>dK (n:=1) (m:=0) Cw.pop λ_=>fI (dK (n:=1) (m:=0) (FE d) λk=>Cw.pr (Nat.le_refl _)) (by omega))
  (Cw.ay (dK (n:=1) (m:=0) Cw.pop λ_=>fI (dK (n:=1) (m:=1) (He (FE d)) λk=>dK (n:=1) (m:=0) (jW _) λ_=>Cw.pr (Nat.le_refl _)) (by omega))
   (dK (n:=0) (m:=1) Cw.dW λt=>dK (n:=1) (m:=0) NQ λn=>Cw.pr (Nat.le_refl _))))
theorem Hf:Cw fG (λn d=>n<=12/\1<=d) j8:=Cw.ay (Cw.pb (Q:=Dv 0) Cw.dW λt d _=>Cw.ite (λ_=>Cw.fail) λh=>Cw.pb (Q:=Dv 1) Cw.pop λ_ e he=>Cw.pr ⟨by omega,by have:1<=e:=he;omega⟩) Cw.fail
def Yz (q:Int×Int):Prop:=0<=q.1/\q.1<=12/\q.2<=12/\(q.2<0\/q.1<=q.2)
theorem Oz:Cw fG (λq d=>Yz q) dC:=Cw.pb Hf λlo d yn=>Cw.ay (Cw.pb (Q:=Dv 1) Cw.pop λ_ _ _=>Cw.ay
  (Cw.pb Hf λhi _ Sz=>Cw.ite (λ_=>Cw.fail) λh=>Cw.pb (jW _) λ_ _ _=>Cw.pr (by unfold Yz;dsimp only;omega))
  (Cw.pb (jW _) λ_ _ _=>Cw.pr (by unfold Yz;dsimp only;omega)))
 (Cw.pb (jW _) λ_ _ _=>Cw.pr (by unfold Yz;dsimp only;omega))
structure sQ (fG:List (List UInt8))(M:aF->Nat->Prop)(ML AL:List aF->Nat->Prop):Prop where
 iA:∀x d e,M x d->d<=e->M x e
 one:∀k,M (.one k) 1
 any:M .any 1
 fY:M .fY 1
 nil:ML [] 0
 snoc:∀l x d e,ML l d->M x e->ML (l++[x]) (d+e)
 cat:∀l d,ML l d->M (rowOf l) d
 first:∀x d,M x d->AL [x] d
 more:∀l x d e,AL l d->M x e->AL (l++[x]) (d+1+e)
 alt:∀l d,AL l d->M (jT l) d
 JN:∀l d e,AL l d->d<=e->AL l e
 OP:∀l d e,ML l d->d<=e->ML l e
 suf:Cw fG (λo d=>∀q,o=some q->1<=d/\∀x e,M x e->M (.many x q.1 q.2) (e+d)) eK
variable {M:aF->Nat->Prop} {ML AL:List aF->Nat->Prop}
theorem uj (h:sQ fG M ML AL)(d:Nat):∀(n c:Nat) (x:aF) (a:Nat),M x a->Cw fG (λy e=>M y (a+e)) (bW d n c x)
 | 0,_,_,_,_=>Cw.fail
 | n+1,c,x,a,hx=>Cw.pb h.suf λr b hr=>by
   cases r with
   | none=>exact Cw.pr (h.iA _ _ _ hx (by omega))
   | some q =>
    have hq:=hr q rfl;exact Cw.ite (λ_=>Cw.fail) λ_=>(uj h d n (c+1) _ (a+b) (hq.2 x a hx)).iA λy e he=>by rw[<-Nat.add_assoc];exact he
theorem RP (h:sQ fG M ML AL){d:Nat}{unit:Pa aF}(hu:Cw fG M unit):Cw fG M (aV d unit):=Cw.pb hu λx a hx=>uj h d _ _ x a hx
theorem BE (h:sQ fG M ML AL){again:Pa aF}(ha:Cw fG M again):∀(n:Nat) (l:List aF) (a:Nat),ML l a->Cw fG (λl e=>ML l (a+e)) (bI again n l)
 | 0,_,_,_=>Cw.fail
 | n+1,l,a,hl=>Cw.ay (Cw.pb ha λx b hx=>(BE h ha n _ (a+b) (h.snoc _ _ _ _ hl hx)).iA λy e he=>by rw[<-Nat.add_assoc];exact he) (Cw.pr (h.OP _ _ _ hl (by omega)))
theorem aBk (h:sQ fG M ML AL){again:Pa aF}(ha:Cw fG M again):Cw fG M (iR again):=Cw.pb ((BE h ha _ [] 0 h.nil)) λps b xU=>Cw.pr (h.cat _ _ (h.OP _ _ _ xU (by omega)))
theorem BD (h:sQ fG M ML AL){row:Pa aF}(hr:Cw fG M row):∀(n:Nat) (l:List aF) (a:Nat),AL l a->Cw fG (λl e=>AL l (a+e)) (eV row n l)
 | 0,_,_,_=>Cw.fail
 | n+1,l,a,hl=>Cw.ay (Cw.pb (Q:=Dv 1) Cw.pop λ_ b hb=>Cw.pb hr λx c hx=>(BD h hr n _ (a+1+c) (h.more _ _ _ _ hl hx)).iA λy e he=>h.JN _ _ _ he (by have:1<=b:=hb;omega)) (Cw.pr (h.JN _ _ _ hl (by omega)))
theorem aBi (h:sQ fG M ML AL){row:Pa aF}(hr:Cw fG M row):Cw fG M (Kt row):=Cw.pb hr λx a hx=>Cw.pb (BD h hr _ [x] a (h.first _ _ hx)) λps b xU=>Cw.pr (h.alt _ _ (h.JN _ _ _ xU (by omega)))
theorem OA (h:sQ fG M ML AL){d:Nat}{unit:Pa aF}(hu:Cw fG M unit):Cw fG M (BQ d unit):=Cw.ite (λ_=>Cw.fail) λ_=>aBi h (aBk h (RP h hu))
theorem OB (h:sQ fG M ML AL):∀d,Cw fG M (aq d)
 | 0=>Cw.fail
 | d+1=>Cw.ay (Cw.pb (Q:=Dv 1) Cw.pop λ_ b hb=>Cw.pr (h.iA _ _ _ h.any (by have:1<=b:=hb;omega))) (Cw.ay (Cw.pb (Q:=Dv 1) Cw.pop λ_ b hb=>Cw.pr (h.iA _ _ _ h.fY (by have:1<=b:=hb;omega)))
   (Cw.ay (Cw.pb (Q:=Dv 1) Cw.pop λ_ b hb=>Cw.pb (OA h (OB h d)) λx c hx=>Cw.pb (jW _) λ_ _ _=>Cw.pr (h.iA _ _ _ hx (by omega)))
    (Cw.ay (Cw.pb (FE (d+1)) λk b hb=>Cw.pr (h.iA _ _ _ (h.one k) (by have:1<=b:=hb;omega))) Cw.fail)))
theorem XC (h:sQ fG M ML AL)(d:Nat):Cw fG M (qh d):=OA h (OB h d)
end
section
variable {fG:List (List UInt8)}
theorem PA {α:Type}{m:List UInt8}{k:Nat}{v:α}{p2:Pa α}(hk:k<=m.length)(h2:Cw fG (Dv k) p2):Cw fG (Dv k) (ay (dT m) (pb cM λ_=>pr v) p2):=λl x l' hl e=>by
 unfold Cae.ay at e;split at e
 ·rename_i hs;obtain⟨y,l1,e1,e2⟩:=dq e;obtain⟨t,rfl,CS⟩:=tH e1;cases e2;unfold dT at hs;rw[Bool.and_eq_true]at hs;have ht:t.text=m:=by simpa[hd] using hs.2
  exact⟨hl.tail,t.text.length,by simp[ot],by show k<=t.text.length;rw[ht];exact hk⟩
 exact h2 l x l' hl e
theorem NR:Cw fG (Dv 4) gZ:=PA (by decide) (λl x l' hl e=>by
 obtain⟨y,l1,e1,e2⟩:=dq e;cases e2;unfold dB Cae.ay at e1;split at e1
 ·rename_i hs;obtain⟨t,rfl,CS⟩:=tH e1;unfold dT at hs;rw[Bool.and_eq_true]at hs;have ht:t.text=[107,101,101,112]:=by simpa[hd] using hs.2
  exact⟨hl.tail,t.text.length,by simp[ot],by show 4<=t.text.length;rw[ht];decide⟩
 cases e1)
def RM (M:aF->Nat->Prop)(r:cD)(n:Nat):Prop:=∃a b,M r.before a/\M r.after b/\a+b+6<=n
variable {M:aF->Nat->Prop} {ML AL:List aF->Nat->Prop}
theorem aBl (h:sQ fG M ML AL):Cw fG (RM M) lO:=Cw.pb (Q:=Dv 0) Cw.dW λt _ _=>Cw.pb NR λb d hd=>Cw.pb (XC h 9) λx a hx=>Cw.pb (jW _) λ_ c hc=>Cw.pb (XC h 9) λy b hy=>Cw.pb (jW _) λ_ e he=>Cw.pr ⟨a,b,hx,hy,by have h1:4<=d:=hd;have h2:1<=c:=hc;have h3:1<=e:=he;omega⟩
theorem xh (h:sQ fG M ML AL):∀(n:Nat) (acc:List cD) (a:Nat),(∀r∈acc,RM M r a)->Cw fG (λl e=>∀r∈l,RM M r (a+e)) (bR n acc)
 | 0,_,_,_=>Cw.fail
 | n+1,acc,a,ha=>Cw.ay (Cw.ite (λ_=>Cw.fail) λ_=>Cw.pb (aBl h) λr b hr=>(xh h n _ (a+b) (λx hx=>by
   rcases List.mem_append.1 hx with hx|hx
   ·obtain⟨p,q,h1,h2,h3⟩:=ha x hx;exact⟨p,q,h1,h2,by omega⟩
   rw[List.mem_singleton.1 hx];obtain⟨p,q,h1,h2,h3⟩:=hr;exact⟨p,q,h1,h2,by omega⟩)).iA λl e he r hr=>by rw[<-Nat.add_assoc];exact he r hr) (Cw.pr (λr hr=>by obtain⟨p,q,h1,h2,h3⟩:=ha r hr;exact⟨p,q,h1,h2,by omega⟩))
theorem Uc:Cw fG (Dv 0) nZ:=fI (dK (n:=0) (m:=0) Cw.dW λt=>fI (dK (n:=1) (m:=0) (jW _) λ_=>fI (dK (n:=1) (m:=0) NQ λn=>fI (dK (n:=1) (m:=0) (jW _) λ_=>fI (dK (n:=1) (m:=0) (He (FE 9)) λk=>fI (dK (n:=1) (m:=0) (jW _) λ_=>Cw.pr (Nat.le_refl _)) (by omega)) (by omega)) (by omega)) (by omega)) (by omega)) (by omega)
theorem tw:∀(n:Nat) (acc:List fA),Cw fG (Dv 0) (bS n acc)
 | 0,_=>Cw.fail
 | n+1,acc=>Cw.ay (Cw.ite (λ_=>Cw.fail) λ_=>fI (dK (n:=0) (m:=0) Uc λc=>tw n _) (by omega)) (Cw.pr (Nat.le_refl _))
theorem Z9:Cw fG (Dv 0) oD:=Cw.ay (fI (dK (n:=1) (m:=0) Cw.pop λ_=>fI (dK (n:=4) (m:=0) NR λ_=>fI (dK (n:=1) (m:=0) (jW _) λ_=>Cw.pr (Nat.le_refl _)) (by omega)) (by omega)) (by omega)) (Cw.pr (Nat.le_refl _))
theorem aBj (h:sQ fG M ML AL):Cw fG (λf d=>∀r∈f.rules,RM M r d) jB:=Cw.pb (tw _ _) λcs a _=>Cw.pb (xh h _ [] 0 (by simp)) λrs b jO=>Cw.pb Z9 λe c _=>Cw.pr (λr hr=>by obtain⟨p,q,h1,h2,h3⟩:=jO r hr;exact⟨p,q,h1,h2,by omega⟩)
theorem Ml (l:List Tok):yW l=ot l:=by
 induction l with
 | nil=>rfl
 | cons t l ih=>simp[yW,ot]at ih ⊢
theorem J7 (h:sQ fG M ML AL){s:List UInt8}{f:dw}(hb:∀m∈fG,m≠[])(hs:∀m∈fG,¬m <:+: s)(hp:eO s=.ok f):∀r∈f.rules,RM M r s.length:=by
 unfold eO at hp;split at hp
 ·cases hp
 rename_i l hl;obtain⟨m,hm,e,hn⟩:=jv _ _ _ _ _ (by simp) hl;rw[List.nil_append]at e;have qT:=hm.sum;have hT:Tw fG l:=by
  rw[e];refine⟨λt ht hk=>?_,λt ht aEo=>?_⟩
  ·rcases List.mem_append.1 ht with ht|ht
   ·exact qT.2 t ht
   rw[List.mem_singleton.1 ht]at hk;exact absurd rfl hk
  rcases List.mem_append.1 ht with ht|ht
  ·exact hs _ aEo (hm.inside t ht)
  rw[List.mem_singleton.1 ht]at aEo;exact hb _ aEo rfl
 split at hp
 ·cases hp
 rename_i f' l' hf;split at hp
 ·cases hp;obtain⟨_,d,h2,h3⟩:=aBj h l _ _ hT hf;have hlen:ot l<=s.length:=by
   rw[e];have h1:=qT.1;rw[Ml]at h1;simp[ot]at h1 ⊢
   exact h1
  intro r hr;obtain⟨p,q,h4,h5,h6⟩:=h3 r hr;exact⟨p,q,h4,h5,by omega⟩
 cases hp
end
theorem sU:∀(l:List aF) (x:aF),l≠[]->fH (l++[x])=fH l+2+bK x
 | [],x,h=>absurd rfl h
 | [y],x,_=>by simp[fH]
 | y::z::l,x,_=>by
  have:=sU (z::l) x (by simp);have e1:fH (y::(z::l++[x]))=bK y+2+fH (z::l++[x]):=by rw[fH,if_neg (by simp)]
  have e2:fH (y::z::l)=bK y+2+fH (z::l):=by rw[fH,if_neg (by simp)]
  rw[List.cons_append,e1,e2,this];omega
theorem zp (l:List aF)(x:aF):br (l++[x])=br l+bK x:=by
 induction l with
 | nil=>simp[br]
 | cons y l ih=>rw[List.cons_append,br,br,ih];omega
theorem AB (l:List aF):bK (rowOf l)=br l:=by
 match l with
 | []=>rfl
 | [x]=>simp[rowOf,br]
 | x::y::l=>rfl
theorem AA (l:List aF):bK (jT l)=fH l:=by
 match l with
 | []=>rfl
 | [x]=>simp[jT,fH]
 | x::y::l=>rfl
theorem MH:sQ [[43],[123]] (λx d=>bK x<=2*d) (λl d=>br l<=2*d) (λl d=>l≠[]/\fH l<=2*d) where
 iA x d e h hd:=by omega
 one k:=by simp[bK]
 any:=by simp[bK]
 fY:=by simp[bK]
 nil:=by simp[br]
 snoc l x d e h1 h2:=by rw[zp];omega
 cat l d h:=by rw[AB];exact h
 first x d h:=⟨by simp,by simpa[fH] using h⟩
 more l x d e h1 h2:=⟨by simp,by rw[sU l x h1.1];omega⟩
 alt l d h:=by rw[AA];exact h.2
 JN l d e h hd:=⟨h.1,by omega⟩
 OP l d e h hd:=by omega
 suf:=Cw.ay (Cw.pb (Q:=Dv 1) Cw.pop λ_ b hb=>Cw.pr (λq hq=>by cases hq;have h1:1<=b:=hb;exact⟨by omega,λx e he=>by simp[bK];omega⟩)) (Cw.aJ7 (by simp) (Cw.ay (Cw.pb (Q:=Dv 1) Cw.pop λ_ b hb=>Cw.pr (λq hq=>by cases hq;have h1:1<=b:=hb;exact⟨by omega,λx e he=>by simp[bK];omega⟩)) (Cw.aJ7 (by simp) (Cw.pr (λq hq=>by cases hq)))))
theorem Ol {x:aF}{q:Int×Int}(hq:Yz q):bK (.many x q.1 q.2)+1<=16*(bK x+1):=by
 obtain⟨h1,h2,h3,h4⟩:=hq;obtain⟨lo,yn⟩:∃lo:Nat,q.1=lo:=⟨q.1.toNat,by omega⟩;simp only[bK,yn,Int.toNat_natCast];have hl:lo<=12:=by omega
 have h5:lo*bK x<=12*bK x:=Nat.mul_le_mul_right _ hl;split
 ·omega
 obtain⟨k,hk⟩:∃k:Nat,q.2=lo+k:=⟨(q.2-lo).toNat,by omega⟩;have e:(q.2-(lo:Int)).toNat=k:=by omega
 rw[e];have h6:lo*bK x+k*(bK x+1)<=(lo+k)*(bK x+1):=by rw[Nat.add_mul,Nat.mul_add lo];omega
 have h7:(lo+k)*(bK x+1)<=12*(bK x+1):=Nat.mul_le_mul_right _ (by omega);omega
theorem pow_two {a b d e:Nat}(h1:a+1<=16 ^ d)(h2:b+1<=16 ^ e):(a+1)*(b+1)<=16 ^ (d+e):=by rw[Nat.pow_add];exact Nat.mul_le_mul h1 h2
theorem Wv:sQ [] (λx d=>bK x+1<=16 ^ d) (λl d=>br l+1<=16 ^ d) (λl d=>l≠[]/\fH l+1<=16 ^ d) where
 iA x d e h hd:=Nat.le_trans h (Nat.pow_le_pow_right (by omega) hd)
 one k:=by simp[bK]
 any:=by simp[bK]
 fY:=by simp[bK]
 nil:=by simp[br]
 snoc l x d e h1 h2:=by
  rw[zp]
  have:=pow_two h1 h2;have e1:(br l+1)*(bK x+1)=br l*bK x+br l+bK x+1:=by rw[Nat.add_mul,Nat.mul_add];omega
  omega
 cat l d h:=by rw[AB];exact h
 first x d h:=⟨by simp,by simpa[fH] using h⟩
 more l x d e h1 h2:=⟨by simp,by
  rw[sU l x h1.1]
  have:=pow_two h1.2 h2;have e1:(fH l+1)*(bK x+1)=fH l*bK x+fH l+bK x+1:=by rw[Nat.add_mul,Nat.mul_add];omega
  have e2:16 ^ (d+1+e)=16*16 ^ (d+e):=by rw[show d+1+e=(d+e)+1 by omega,Nat.pow_succ];omega
  omega⟩
 alt l d h:=by rw[AA];exact h.2
 JN l d e h hd:=⟨h.1,Nat.le_trans h.2 (Nat.pow_le_pow_right (by omega) hd)⟩
 OP l d e h hd:=Nat.le_trans h (Nat.pow_le_pow_right (by omega) hd)
 suf:=by
  have key:∀(q:Int×Int) (d:Nat),Yz q->1<=d->1<=d/\∀(x:aF) (e:Nat),bK x+1<=16 ^ e->bK (.many x q.1 q.2)+1<=16 ^ (e+d):=λq d hq hd=>⟨hd,λx e he=>by
   have h1:=Ol (x:=x) hq;have h2:16 ^ (e+1)<=16 ^ (e+d):=Nat.pow_le_pow_right (by omega) (by omega);have h3:16 ^ (e+1)=16*16 ^ e:=by rw[Nat.pow_succ];omega
   omega⟩
  exact Cw.ay (Cw.pb (Q:=Dv 1) Cw.pop λ_ b hb=>Cw.pr (λq hq=>by cases hq;exact key _ _ (by unfold Yz;decide) hb)) (Cw.ay (Cw.pb (Q:=Dv 1) Cw.pop λ_ b hb=>Cw.pr (λq hq=>by cases hq;exact key _ _ (by unfold Yz;decide) hb)) (Cw.ay (Cw.pb (Q:=Dv 1) Cw.pop λ_ b hb=>Cw.pr (λq hq=>by cases hq;exact key _ _ (by unfold Yz;decide) hb)) (Cw.ay (Cw.pb (Q:=Dv 1) Cw.pop λ_ b hb=>Cw.pb Oz λr c hr=>Cw.pr (λq hq=>by cases hq;have h1:1<=b:=hb;exact key _ _ hr (by omega))) (Cw.pr (λq hq=>by cases hq)))))
theorem LM {s:List UInt8}{f:dw}(hl:s.length<=900)(h1:(43:UInt8) ∉ s)(h2:(123:UInt8) ∉ s)(hp:eO s=.ok f):∀r∈f.rules,bK r.before+1<=2000/\bK r.after+1<=2000:=λr hr=>by
 obtain⟨a,b,h3,h4,h5⟩:=J7 MH (by simp) (λm hm hi=>by
  have kV:∀c∈m,c∈s:=λc hc=>hi.subset hc;simp only[List.mem_cons,List.not_mem_nil,or_false]at hm;rcases hm with rfl|rfl
  ·exact h1 (kV 43 (by simp))
  exact h2 (kV 123 (by simp))) hp r hr
 exact⟨by omega,by omega⟩
theorem LN {s:List UInt8}{f:dw}(hl:s.length<=8)(hp:eO s=.ok f):∀r∈f.rules,bK r.before+1<=2000/\bK r.after+1<=2000:=λr hr=>by
 obtain⟨a,b,h3,h4,h5⟩:=J7 Wv (by simp) (by simp) hp r hr;have h6:16 ^ a<=16 ^ 2:=Nat.pow_le_pow_right (by omega) (by omega);have h7:16 ^ b<=16 ^ 2:=Nat.pow_le_pow_right (by omega) (by omega);exact⟨by omega,by omega⟩
end Cae
end
section
namespace Go.Proofs.YtledlfbbebodgaaGreatDoor
open Go.Vc Go.Proofs Go.RowKit Cae
attribute [local irreducible] dd ae ak a7 runK bE Sl Vc.Own vc aU cJ a8
theorem Ux (l l':List Rg)(hl:l.length<10000000)(X X':Nat->Prop)(v v':Value)(w:World)(hv:Sl X 2 (En bL) w v l)(WW:Sl X' 2 (En bL) w v' l') :
  bE Tryz.prog 120 [v,v'] w λr w'=>r=.bool (decide (l=l'))/\Below w.heap.size w w':=by
 obtain⟨a,c,rfl,hc⟩:=hv.shape;obtain⟨a',c',rfl,hc'⟩:=WW.shape;refine aE Tryz.func120 rfl (by kernel_rfl) [4] rfl ?_;push_cast -dsimp(maxSteps:=4000000) [Tryz.ntmps120];refine⟨λdD=>⟨?_,Below.refl _ _⟩,λhe=>?_⟩
 ·rw[decide_eq_false];intro h;subst h;omega
 have Vt:l.length=l'.length:=by omega
 refine aL [4,5,13,14,15,16,17,18,19,20,21,22,23,24,25] (λz wx=>∃(i:Nat),z 13=.int .i64 i/\i<=l.length/\l.take i=l'.take i/\Below w.heap.size w wx) (λz _=>l.length-(intOf (z 13)).toNat) ?_ ?_
 ·exact⟨0,rfl,Nat.zero_le _,rfl,Below.refl _ _⟩
 intro z wx hI;obtain⟨i,K9,hi,bJ,hb⟩:=hI;push_cast -dsimp[K9];refine⟨λaw=>?_,λfT=>?_⟩
 ·obtain⟨x,hx,jQ,hd,ht⟩:=au (l:=l) (i:=i) (by omega);obtain⟨b,o,rfl,hX,aK⟩:=(hv.below hb).get hx;obtain⟨x',Lr,aOA,hd',ht'⟩:=au (l:=l') (i:=i) (by omega);obtain⟨b',o',rfl,hX',Lc⟩:=(WW.below hb).get Lr;refine bx (λw'=>∀a,w'.cell? a=wx.cell? a) mixed (by kernel_rfl) (λ_=>rfl) ?_;have g0:∀bU:World,(∀a,bU.cell? a=wx.cell? a)->aB bU ⟨b,o+i*2,none⟩ 0 2=some [.int .i64 x.1,.int .i64 x.2]:=λbU hC=>ax (bL x) 0 (λj u hu=>by rw[hC];simpa using aK j u hu);have g0':∀bU:World,(∀a,bU.cell? a=wx.cell? a)->aB bU ⟨b',o'+i*2,none⟩ 0 2=some [.int .i64 x'.1,.int .i64 x'.2]:=λbU hC=>ax (bL x') 0 (λj u hu=>by rw[hC];simpa using Lc j u hu);have d0:=g0 wx.drew (λ_=>rfl);have d0':=g0' wx.drew (λ_=>rfl);push_cast -dsimp[d0,d0'];have aNb:((x.1=x'.1/\x.2=x'.2))↔x=x':=by
   cases x;cases x';simp only[Prod.mk.injEq]
  rw[aNb];refine⟨⟨by omega,by omega⟩,λbU hC=>by rw[g0 bU hC];exact rfl,⟨by omega,by omega⟩,λbU hC=>by rw[g0' bU hC];exact rfl,λdD=>?_,λheq=>?_⟩
  ·refine⟨?_,hb.drew⟩;rw[decide_eq_false];intro h;subst h;rw[hx]at Lr;cases Lr;exact dD rfl
  have heq:x=x':=Classical.byContradiction λh=>heq h;exact⟨⟨by omega,by omega⟩,⟨i+1,rfl,by omega,by rw[ht,ht',bJ,heq],hb.drew⟩,by rw[K9];simp only[intOf];omega⟩
 refine⟨?_,hb⟩;rw[List.take_of_length_le (by omega),List.take_of_length_le (by omega)]at bJ;rw[decide_eq_true bJ]
theorem W6 {L:VP}{other:Prop}(ty x)(p):sx 8 ty x L other p=L (.iface ty x):=(rfl)
theorem Mx:(Tryz.prog.underlying 111).isSome=true:=by kernel_rfl
attribute [push_cast] Mx W6
def Kq (e:Int)(ce:List PanicEntry):Prop:=ce=[{ v:=.iface 111 (.agg #[.int .i64 e]),recovered:=false }]
def MkB (B mb nb:Nat)(back:Bool)(X:Nat->Prop)(w:World)(c:aD)(sv iv:Value)(us:List SV):Prop:=aM w mb 115 [sv,iv,.map (some nb),.bool back]/\Vc.Own B 41 1 nD w sv us/\Vc.Own B 109 3 bV w iv c.ins/\us.length=c.sets.length /\
  sv.ownBlock≠some mb/\iv.ownBlock≠some mb/\(∀g,sv.ownBlock=some g->iv.ownBlock≠some g) /\
  ∀(i:Nat) (u:SV) (s:List Rg),us[i]?=some u->c.sets[i]?=some s->Sl (λb=>X b\/b=mb\/sv.ownBlock=some b\/iv.ownBlock=some b) 2 (En bL) w u.v s
structure Mk (B mb nb:Nat)(back:Bool)(X:Nat->Prop)(w:World)(c:aD):Prop where
 st:∃sv iv us,MkB B mb nb back X w c sv iv us
 lt:mb<B
 le:B<=w.heap.size
 few:∀s∈c.sets,aP (-2) s=true
 num:c.ins.length<=2000
 sum:c.sets.length<=c.ins.length+1
theorem Mk.below {B mb nb:Nat}{back:Bool}{X:Nat->Prop}{w w':World}{c:aD}(h:Mk B mb nb back X w c)(hb:Below w.heap.size w w'):Mk B mb nb back X w' c:=by
 obtain⟨sv,iv,us,hB,xJ,fJ,su,gA,gd,lW,rO⟩:=h.st;exact⟨⟨sv,iv,us,hB.below hb hB.lt,xJ.below hb,fJ.below hb,su,gA,gd,lW,λi u s h1 h2=>(rO i u s h1 h2).below hb⟩,h.lt,Nat.le_trans h.le hb.size,h.few,h.num,h.sum⟩
def Mw (w:World)(mb i:Nat):Prop:=i=mb\/∃o v,w.cell? ⟨mb,o,none⟩=some v/\v.ownBlock=some i
structure gO (mb:Nat)(w w':World):Prop where
 kept:Kept (Mw w mb) w w'
 own:∀i,Mw w' mb i->Mw w mb i\/w.heap.size<=i
theorem gO.trans {mb:Nat}{a b c:World}(h:gO mb a b)(k:gO mb b c):gO mb a c :=
 ⟨h.kept.trans k.kept (λi hi hm=>(h.own i hm).resolve_right (by omega)),λi hi=>by
  rcases k.own i hi with h1|h1
  ·exact h.own i h1
  have:=h.kept.size;exact .inr (by omega)⟩
theorem gO.below {mb:Nat}{w w':World}(hb:Below w.heap.size w w')(aw:mb<w.heap.size):gO mb w w' :=
 ⟨Kept.aO hb (λi h1 h2=>by omega),λi hi=>by
  rcases hi with hi|⟨o,v,h1,h2⟩
  ·exact .inl (.inl hi)
  refine .inl (.inr ⟨o,v,?_,h2⟩);rw[<-hb.cell (p:=⟨mb,o,none⟩) aw];exact h1⟩
theorem gO.refl {mb:Nat}{w:World}(aw:mb<w.heap.size):gO mb w w:=gO.below (Below.refl _ _) aw
theorem aBm {w:World}{mb i:Nat}{e:TypeId}{a b c d:Value}(h:aM w mb e [a,b,c,d]):Mw w mb i↔i=mb\/a.ownBlock=some i\/b.ownBlock=some i\/c.ownBlock=some i\/d.ownBlock=some i:=by
 unfold Mw;constructor
 ·rintro(hi|⟨o,v,h1,h2⟩)
  ·exact .inl hi
  have hc:[a,b,c,d][o]?=some v:=by
   have hB:w.heap[mb]?=_:=h;simp only[World.cell?,hB]at h1;simpa using h1
  match o,hc with
  | 0,hc=>cases hc;exact .inr (.inl h2)
  | 1,hc=>cases hc;exact .inr (.inr (.inl h2))
  | 2,hc=>cases hc;exact .inr (.inr (.inr (.inl h2)))
  | 3,hc=>cases hc;exact .inr (.inr (.inr (.inr h2)))
  | _+4,hc=>simp at hc
 rintro(hi|hi|hi|hi|hi)
 ·exact .inl hi
 ·exact .inr ⟨0,a,h.cell rfl,hi⟩
 ·exact .inr ⟨1,b,h.cell rfl,hi⟩
 ·exact .inr ⟨2,c,h.cell rfl,hi⟩
 exact .inr ⟨3,d,h.cell rfl,hi⟩
theorem eT {w:World}{mb i nb:Nat}{e:TypeId}{a b:Value}{back:Bool}(h:aM w mb e [a,b,.map (some nb),.bool back]):Mw w mb i↔i=mb\/a.ownBlock=some i\/b.ownBlock=some i:=by
 rw[aBm h];simp[Value.ownBlock]
theorem Mk.mw {B mb nb:Nat}{back:Bool}{X:Nat->Prop}{w:World}{c:aD}(h:Mk B mb nb back X w c){i:Nat}(hi:Mw w mb i):(i=mb\/B<=i)/\i<w.heap.size:=by
 obtain⟨sv,iv,us,hB,xJ,fJ,_⟩:=h.st;have aw:=h.lt;have hle:=h.le;rcases(eT hB).1 hi with hi|hi|hi
 ·exact⟨.inl hi,by omega⟩
 ·have:=xJ.block i hi;exact⟨.inr this.1,this.2⟩
 have:=fJ.block i hi;exact⟨.inr this.1,this.2⟩
theorem gO.out {B mb nb:Nat}{back:Bool}{X:Nat->Prop}{w w':World}{c:aD}(h:gO mb w w')(hM:Mk B mb nb back X w c):Kept (λi=>i=mb\/B<=i) w w':=h.kept.weaken (λi _ hi=>(hM.mw hi).1)
theorem oz {B mb nb:Nat}{back:Bool}{X:Nat->Prop}{w:World}{c:aD}(h:Mk B mb nb back X w c):bE Tryz.prog 121 [.pointer (some ⟨mb,0,none⟩)] w λr w'=>r=.int .i64 c.ins.length/\w'=w:=by
 obtain⟨sv,iv,us,hB,xJ,fJ,su,gA,gd,lW,rO⟩:=h.st;obtain⟨ia,ic,rfl⟩:=fJ.slice;refine aE Tryz.func121 rfl (by kernel_rfl) [2] rfl ?_;push_cast -dsimp(maxSteps:=4000000) [Tryz.ntmps121];have f1:w.cell? ⟨mb,1,none⟩=some (.slice ia c.ins.length ic):=hB.cell rfl;push_cast -dsimp[f1]
def aD.push (c:aD)(x:I3):aD:=⟨c.sets,c.ins++[x]⟩
theorem th {B mb nb:Nat}{back:Bool}{X:Nat->Prop}{w:World}{c:aD}(h:Mk B mb nb back X w c)(qT:c.sets.length<=c.ins.length+1)(x:I3) :
  yB Tryz.prog 49 [.pointer (some ⟨mb,0,none⟩),.agg #[.int .i64 x.op,.int .i64 x.a,.int .i64 x.b]] w
   (λr w'=>c.ins.length<2000/\r=.int .i64 c.ins.length/\Mk B mb nb back X w' (aD.push c x)/\gO mb w w') (λce w'=>c.ins.length=2000/\Kq 4 ce/\gO mb w w'):=by
 obtain⟨sv,iv,us,hB,xJ,fJ,su,gA,gd,lW,rO⟩:=h.st;obtain⟨sa,sc,rfl⟩:=xJ.slice;obtain⟨ia,ic,rfl⟩:=fJ.slice;have hle:=h.le;have aw:=h.lt;have WE:=h.num;refine bM Tryz.func49 rfl (by kernel_rfl) [.tmp 4] rfl ?_;push_cast -dsimp(maxSteps:=4000000) [Tryz.ntmps49];refine aR ?_;intro w1 aZ;have aZ:ly w w1 109 [.int .i64 x.op,.int .i64 x.a,.int .i64 x.b]:=aZ;have z1:=aZ.size;have T1:=aZ.aN;have B1:=hB.below aZ.below hB.lt;have f1:w1.cell? ⟨mb,1,none⟩=some (.slice ia c.ins.length ic):=B1.cell rfl;have k1:gO mb w w1:=gO.below aZ.below (by omega);push_cast -dsimp[f1];refine⟨λaHU=>?_,λaHU=>?_⟩
 ·refine XY ?_;push_cast -dsimp;exact⟨by omega,rfl,k1⟩
 have B1d:=B1.drew;have T1d:=T1.drew;refine eE (λw'=>aM w' mb 115 [.slice sa us.length sc,.slice ia c.ins.length ic,.map (some nb),.bool back]/\aM w' w.heap.size 109 [.int .i64 x.op,.int .i64 x.a,.int .i64 x.b]) mixed (by kernel_rfl) (by simp) ⟨B1d,T1d⟩ ?_;have g1:w1.drew.cell? ⟨mb,1,none⟩=some (.slice ia c.ins.length ic):=B1d.cell rfl;have g2:aB w1.drew ⟨w.heap.size,0,none⟩ 0 3=some [.int .i64 x.op,.int .i64 x.a,.int .i64 x.b]:=T1d.aB;push_cast -dsimp[g1,g2];refine⟨λbU h=>by rw[h.1.cell (o:=1) rfl];exact rfl,λbU h=>by rw[show aB bU ⟨w.heap.size,0,none⟩ 0 3=some [.int .i64 x.op,.int .i64 x.a,.int .i64 x.b] from h.2.aB];exact rfl,?_⟩
 refine cT gj rfl rfl (by omega) ?_;intro wa dt;have za:wa.heap.size=w1.heap.size+1:=dt.size;have Ba:=B1d.below dt.below B1d.lt;have Ta:=T1d.below dt.below T1d.lt;refine⟨⟨Ba,Ta⟩,?_⟩;have aMa:Vc.Own B 109 3 bV w1.drew (.slice ia c.ins.length ic) c.ins:=(fJ.new aZ).aI ((Kept.refl (λ_=>False) w1).drew) (λ_ _ h=>h);have hOa:=aMa.new dt;push_cast -dsimp;refine aS (base:=B) [x] (enc:=bV) gj hOa (by rfl) (λj u hu=>by simpa[bV] using dt.cell hu) (by simp[bV,Value.oneCell']) (by simp only[List.length_cons,List.length_nil];omega) (by show B<=wa.heap.size;omega) ?_
 intro vb wb fg yl jh;have vk:∀g,(Value.slice ia c.ins.length ic).ownBlock=some g->B<=g/\g<w.heap.size:=λg hg=>fJ.block g hg;have kb:Kept (λj=>(Value.slice ia c.ins.length ic).ownBlock=some j) w1.drew wb:=(Kept.new dt).trans (Kept.grown yl (λ_ h=>h)) (λ_ _ h=>h);have Bb:=B1d.kept kb (λh=>gd h);have Tb:=T1d.kept kb (λh=>by have:=vk _ h;omega);refine⟨⟨Bb,Tb⟩,?_⟩;obtain⟨ib,icb,rfl⟩:=fg.slice;push_cast -dsimp;refine aC Bb (by simp) rfl ?_;intro wc fz;have zc:=fz.size;have Bc:aM wc mb 115 [.slice sa us.length sc,.slice ib (c.ins++[x]).length icb,.map (some nb),.bool back]:=fz.aN;have kd9:Kept (λ_=>False) w1 w1.drew:=(Kept.refl _ _).drew;have kc:Kept (λj=>(Value.slice ia c.ins.length ic).ownBlock=some j\/j=mb) w1 wc:=((kd9.weaken (λ_ _ h=>h.elim)).trans kb (λ_ _ h=>.inl h)).trans fz.kept (λ_ _ h=>.inr h);have Pw:=fg.aI fz.kept (λg hg hh=>by have:=(fg.block g hg).1;have h':g=mb:=hh;omega);have Pv:=(xJ.new aZ).aI kc (λg hg hh=>by
  rcases hh with hh|hh
  ·exact lW g hg hh
  exact gA (by rw[<-hh];exact hg))
 have kw:gO mb w wc:=k1.trans ⟨kc.weaken (λi _ hi=>by
  rw[eT B1];rcases hi with hi|hi
  ·exact .inr (.inr hi)
  exact .inl hi),λi hi=>by
  rw[eT Bc]at hi;rw[eT B1];rcases hi with hi|hi|hi
  ·exact .inl (.inl hi)
  ·exact .inl (.inr (.inl hi))
  rcases jh i hi with h1|h1
  ·exact .inl (.inr (.inr h1))
  have:wa.heap.size<=i:=h1;exact .inr (by omega)⟩
 have Ct:Mk B mb nb back X wc (aD.push c x):=by
  refine⟨⟨_,_,_,Bc,Pv,Pw,su,gA,λhh=>by have:=(Pw.block _ hh).1;omega,qe Pv Pw (by decide),λi u t h1 h2=>?_⟩,h.lt,by have:=kw.kept.size;omega,h.few,by simp[aD.push];omega,by simp[aD.push];omega⟩;refine((rO i u t h1 h2).below aZ.below).Nz (λ_=>by simp[bL]) kc (λi hi=>by
   rcases hi with hi|hi
   ·exact .inr (.inr (.inr hi))
   exact .inr (.inl hi)) (λb hb=>?_)
  rcases hb with hb|hb|hb|hb
  ·exact .inl (.inl hb)
  ·exact .inl (.inr (.inl hb))
  ·exact .inl (.inr (.inr (.inl hb)))
  rcases jh b hb with hh|hh
  ·exact .inl (.inr (.inr (.inr hh)))
  exact .inr (by omega)
 refine⟨trivial,?_⟩;have c1:wc.cell? ⟨mb,1,none⟩=some (.slice ib (c.ins++[x]).length icb):=Bc.cell rfl;push_cast -dsimp[c1];refine⟨by rw[List.length_append];simp only[List.length_cons,List.length_nil];omega,by omega,?_,Ct,kw⟩;congr 1;rw[List.length_append];simp only[List.length_cons,List.length_nil];omega
theorem MkB.below {B mb nb:Nat}{back:Bool}{X:Nat->Prop}{w w':World}{c:aD}{sv iv:Value}{us:List SV}(h:MkB B mb nb back X w c sv iv us)(hb:Below w.heap.size w w'):MkB B mb nb back X w' c sv iv us:=by
 obtain⟨hB,xJ,fJ,su,gA,gd,lW,rO⟩:=h;exact⟨hB.below hb hB.lt,xJ.below hb,fJ.below hb,su,gA,gd,lW,λi u s h1 h2=>(rO i u s h1 h2).below hb⟩
theorem TV (t s:List Rg)(ht:t.length<10000000)(hs:s.length<10000000)(X X':Nat->Prop)(v u:Value)(sb:Nat)(w:World)(hv:Sl X 2 (En bL) w v t)(hu:Sl X' 2 (En bL) w u s)(hc:w.cell? ⟨sb,0,none⟩=some u) :
  bE Tryz.prog 119 [v,.pointer (some ⟨sb,0,none⟩)] w λr w'=>r=.bool (s == t)/\Below w.heap.size w w':=by
 obtain⟨a,c,rfl,hcc⟩:=hv.shape;obtain⟨a',c',rfl,aSM⟩:=hu.shape;refine aE Tryz.func119 rfl (by kernel_rfl) [3] rfl ?_;push_cast -dsimp(maxSteps:=4000000) [Tryz.ntmps119];push_cast -dsimp[hc];refine aA (Ux s t hs X' X _ _ w hu hv) ?_;rintro _ w1 ⟨rfl,hb⟩;push_cast -dsimp;refine⟨?_,hb⟩;congr 1;by_cases h:s=t
 ·subst h;simp
 rw[decide_eq_false h,beq_eq_false_iff_ne.2 h]
theorem SI (s:List Rg)(hs:s.length<10000000)(l:List (List Rg))(hl:l.length<1000000000)(hls:∀t∈l,t.length<10000000)(X X':Nat->Prop)(v u:Value)(sb:Nat)(w:World)(hv:dy X w v l)(hu:Sl X' 2 (En bL) w u s)(hc:w.cell? ⟨sb,0,none⟩=some u) :
  bE Tryz.prog 118 [v,.func (.func 119) #[] #[.pointer (some ⟨sb,0,none⟩)]] w λr w'=>((∃i:Nat,r=.int .i64 i/\l[i]?=some s)\/r=.int .i64 (-1))/\Below w.heap.size w w':=by
 obtain⟨a,c,rfl,hcc⟩:=hv.shape;refine aE Tryz.func118 rfl (by kernel_rfl) [4] rfl ?_;push_cast -dsimp(maxSteps:=4000000) [Tryz.ntmps118];refine aL [4,5,8,9,10,11,12,13,14,15,16,17,18] (λz wx=>∃(i:Nat),z 8=.int .i64 i/\i<=l.length/\Below w.heap.size w wx) (λz _=>l.length-(intOf (z 8)).toNat) ?_ ?_
 ·exact⟨0,rfl,Nat.zero_le _,Below.refl _ _⟩
 intro z wx hI;obtain⟨i,h8,hi,hb⟩:=hI;push_cast -dsimp[h8];refine⟨λaw=>?_,λfT=>?_⟩
 ·obtain⟨x,hx,jQ,hd,ht⟩:=au (l:=l) (i:=i) (by omega);obtain⟨b,o,cs,ha,hX,hk,aK,u0,rfl,hu0⟩:=Sl.AQ (hv.below hb) hx;subst ha;have c0:wx.cell? ⟨b,o+i,none⟩=some u0:=by simpa using aK 0 u0 rfl
  obtain⟨a0,k0,rfl,hk0⟩:=hu0.shape;push_cast -dsimp[c0,Nat.mul_one];refine⟨⟨by omega,by omega⟩,?_⟩;refine aA (TV x s (hls x jQ) hs X X' _ _ sb wx hu0 (hu.below hb) ((hb.cell (World.block_lt_of_cell? w _ hc)).trans hc)) ?_;rintro _ w1 ⟨rfl,gX⟩;have nF:=hb.trans (gX.mono hb.size);cases ba:(s == x) with
  | true =>
   have od:s=x:=eq_of_beq ba;subst od;push_cast -dsimp;exact⟨.inl ⟨i,rfl,hx⟩,nF⟩
  | false =>
   push_cast -dsimp;exact⟨⟨by omega,by omega⟩,⟨i+1,rfl,by omega,nF⟩,by rw[h8];simp only[intOf];omega⟩
 exact⟨.inr trivial,hb⟩
structure Ext (c c':aD):Prop where
 ins:∀(k:Nat) (x:I3),c.ins[k]?=some x->c'.ins[k]?=some x
 sets:∀(k:Nat) (s:List Rg),c.sets[k]?=some s->c'.sets[k]?=some s
 sum:c'.sets.length+c.ins.length<=c.sets.length+c'.ins.length
theorem Ext.refl (c:aD):Ext c c:=⟨λ_ _ h=>h,λ_ _ h=>h,Nat.le_refl _⟩
theorem Ext.trans {a b c:aD}(h:Ext a b)(k:Ext b c):Ext a c:=⟨λi x hx=>k.ins i x (h.ins i x hx),λi x hx=>k.sets i x (h.sets i x hx),by have:=h.sum;have:=k.sum;omega⟩
theorem Ext.push (c:aD)(x:I3):Ext c (aD.push c x):=⟨λk y h=>by
 show (c.ins++[x])[k]?=some y
 rw[List.getElem?_append_left (List.getElem?_eq_some_iff.1 h).1];exact h,λ_ _ h=>h,by simp[aD.push]⟩
theorem OC {B mb nb:Nat}{back:Bool}{X:Nat->Prop}{w:World}{c:aD}{sv iv:Value}{us:List SV}(h:Mk B mb nb back X w c)(hM:MkB B mb nb back X w c sv iv us)(qT:c.sets.length<=c.ins.length)(s:List Rg)(hr:aP (-2) s=true)(v:Value)
  (hv:Sl (λb=>X b\/b=mb\/sv.ownBlock=some b\/iv.ownBlock=some b) 2 (En bL) w v s) :
  yB Tryz.prog 75 [.pointer (some ⟨mb,0,none⟩),v] w
   (λr w'=>c.ins.length<2000/\(∃(c':aD) (i:Nat),Mk B mb nb back X w' c'/\Ext c c'/\c'.ins.length=c.ins.length+1/\c'.ins[c.ins.length]?=some ⟨1,(i:Int),0⟩/\c'.sets[i]?=some s)/\gO mb w w') (λce w'=>c.ins.length=2000/\Kq 4 ce/\gO mb w w'):=by
 obtain⟨hB,xJ,fJ,su,gA,gd,lW,rO⟩:=hM;obtain⟨sa,sc,rfl⟩:=xJ.slice;obtain⟨ia,ic,rfl⟩:=fJ.slice;obtain⟨va,vc,rfl,hvc⟩:=hv.shape;have hle:=h.le;have aw:=h.lt;have WE:=h.num;have qS:=fu hr;refine bM Tryz.func75 rfl (by kernel_rfl) [] rfl ?_;push_cast -dsimp(maxSteps:=4000000) [Tryz.ntmps75];refine aR ?_;intro w1 aZ;have aZ:ly w w1 41 [.slice va s.length vc]:=aZ;have z1:=aZ.size;have T1:=aZ.aN;have B1:=hB.below aZ.below hB.lt;have f0:w1.cell? ⟨mb,0,none⟩=some (.slice sa us.length sc):=B1.cell rfl;have t0:w1.cell? ⟨w.heap.size,0,none⟩=some (.slice va s.length vc):=T1.cell rfl;push_cast -dsimp[f0];have hSV:dy (λ_=>False) w1 (.slice sa us.length sc) c.sets:=dy.rT su ((xJ.new aZ).sl.weaken (λ_ h=>h.elim)) (λi u s h1 h2=>((rO i u s h1 h2).below aZ.below).weaken (λ_ h=>h.elim));refine aA (SI s (by omega) c.sets (by omega) (λx hx=>by have:=fu (h.few x hx);omega) (λ_=>False) (λ_=>False) (.slice sa us.length sc) (.slice va s.length vc) w.heap.size w1 hSV ((hv.below aZ.below).weaken (λ_ h=>h.elim)) t0) ?_;rintro r w2 ⟨vx,eR⟩;have z2:=eR.size;have fo:=aZ.below.trans (eR.mono (by omega));have k2:gO mb w w2:=gO.below fo (by omega);rcases vx with ⟨i,rfl,hi⟩|rfl
 ·push_cast -dsimp;refine⟨λh0=>by omega,λh0=>?_⟩;refine aG (th (h.below fo) (by omega) ⟨1,(i:Int),0⟩) ?_ ?_
  ·rintro _ w3 ⟨hl,rfl,Fg,k3⟩;push_cast -dsimp;exact⟨hl,⟨_,i,Fg,Ext.push c _,by simp[aD.push],by show (c.ins++[_])[c.ins.length]?=_;rw[List.getElem?_append_right (Nat.le_refl _),Nat.sub_self];rfl,hi⟩,k2.trans k3⟩
  rintro ce w3 ⟨hl,ht,k3⟩;push_cast -dsimp;exact⟨hl,ht,k2.trans k3⟩
 push_cast -dsimp;have B2:=B1.below eR B1.lt;have T2:=T1.below eR T1.lt;have B2d:=B2.drew;have T2d:=T2.drew;refine eE (λw'=>aM w' mb 115 [.slice sa us.length sc,.slice ia c.ins.length ic,.map (some nb),.bool back]/\aM w' w.heap.size 41 [.slice va s.length vc]) mixed (by kernel_rfl) (by simp) ⟨B2d,T2d⟩ ?_;have g0:w2.drew.cell? ⟨mb,0,none⟩=some (.slice sa us.length sc):=B2d.cell rfl;have g1:w2.drew.cell? ⟨w.heap.size,0,none⟩=some (.slice va s.length vc):=T2d.cell rfl;push_cast -dsimp[g0,g1];refine⟨λbU h=>by rw[h.1.cell (o:=0) rfl];exact rfl,λbU h=>by rw[h.2.cell (o:=0) rfl];exact rfl,?_⟩;refine cT vW rfl rfl (by omega) ?_;intro wa dt;have za:wa.heap.size=w2.heap.size+1:=dt.size;have Ba:=B2d.below dt.below B2d.lt;have Ta:=T2d.below dt.below T2d.lt;refine⟨⟨Ba,Ta⟩,?_⟩;have aL8:Vc.Own B 41 1 nD w2.drew (.slice sa us.length sc) us:=((xJ.new aZ).below eR).aI ((Kept.refl (λ_=>False) w2).drew) (λ_ _ h=>h);have aL7:=aL8.new dt;push_cast -dsimp;refine aS (base:=B) [(⟨va,s.length,vc⟩:SV)] (enc:=nD) vW aL7 (by rfl) (λj u hu=>by simpa[nD,SV.v] using dt.cell hu) D2 (by simp only[List.length_cons,List.length_nil];omega) (by show B<=wa.heap.size;omega) ?_
 intro vb wb fg yl jh;have vP:∀g,(Value.slice sa us.length sc).ownBlock=some g->B<=g/\g<w.heap.size:=λg hg=>xJ.block g hg;have kb:Kept (λj=>(Value.slice sa us.length sc).ownBlock=some j) w2.drew wb:=(Kept.new dt).trans (Kept.grown yl (λ_ h=>h)) (λ_ _ h=>h);have Bb:=B2d.kept kb (λh=>gA h);have Tb:=T2d.kept kb (λh=>by have:=vP _ h;omega);refine⟨⟨Bb,Tb⟩,?_⟩;have zb:w2.heap.size+1<=wb.heap.size:=by have:=yl.size;omega
 obtain⟨ib,icb,rfl⟩:=fg.slice;push_cast -dsimp;refine aC Bb (by simp) rfl ?_;intro wc fz;have zc:=fz.size;have Bc:aM wc mb 115 [.slice ib (us++[(⟨va,s.length,vc⟩:SV)]).length icb,.slice ia c.ins.length ic,.map (some nb),.bool back]:=fz.aN;have c0:wc.cell? ⟨mb,0,none⟩=some (.slice ib (us++[(⟨va,s.length,vc⟩:SV)]).length icb):=Bc.cell rfl;have kd2:Kept (λ_=>False) w2 w2.drew:=(Kept.refl _ _).drew;have kc:Kept (λj=>(Value.slice sa us.length sc).ownBlock=some j\/j=mb) w2 wc:=((kd2.weaken (λ_ _ h=>h.elim)).trans kb (λ_ _ h=>.inl h)).trans fz.kept (λ_ _ h=>.inr h);have hlu:(us++[(⟨va,s.length,vc⟩:SV)]).length=c.sets.length+1:=by simp[su]
 have kw:gO mb w wc:=k2.trans ⟨kc.weaken (λi _ hi=>by
  rw[eT B2];rcases hi with hi|hi
  ·exact .inr (.inl hi)
  exact .inl hi),λi hi=>by
  rw[eT Bc]at hi;rw[eT B2];rcases hi with hi|hi|hi
  ·exact .inl (.inl hi)
  ·rcases jh i hi with h1|h1
   ·exact .inl (.inr (.inl h1))
   have:wa.heap.size<=i:=h1;exact .inr (by omega)
  exact .inl (.inr (.inr hi))⟩
 have Pv:=fg.aI fz.kept (λg hg hh=>by have:=(fg.block g hg).1;have h':g=mb:=hh;omega);have Pw:Vc.Own B 109 3 bV wc (.slice ia c.ins.length ic) c.ins:=(fJ.below fo).aI kc (λg hg hh=>by
  rcases hh with hh|hh
  ·exact lW g hh hg
  exact gd (by rw[<-hh];exact hg))
 have kV:∀b,(X b\/b=mb\/(Value.slice ib (us++[(⟨va,s.length,vc⟩:SV)]).length icb).ownBlock=some b\/(Value.slice ia c.ins.length ic).ownBlock=some b)->(X b\/b=mb\/(Value.slice sa us.length sc).ownBlock=some b\/(Value.slice ia c.ins.length ic).ownBlock=some b)\/w2.heap.size<=b:=λb hb=>by
  rcases hb with hb|hb|hb|hb
  ·exact .inl (.inl hb)
  ·exact .inl (.inr (.inl hb))
  ·rcases jh b hb with h1|h1
   ·exact .inl (.inr (.inr (.inl h1)))
   have:wa.heap.size<=b:=h1;exact .inr (by omega)
  exact .inl (.inr (.inr (.inr hb)))
 have hkc:∀i,((Value.slice sa us.length sc).ownBlock=some i\/i=mb)->(X i\/i=mb\/(Value.slice sa us.length sc).ownBlock=some i\/(Value.slice ia c.ins.length ic).ownBlock=some i):=λi hi=>by
  rcases hi with hi|hi
  ·exact .inr (.inr (.inl hi))
  exact .inr (.inl hi)
 have Mc:Mk B mb nb back X wc ⟨c.sets++[s],c.ins⟩:=by
  refine⟨⟨_,_,_,Bc,Pv,Pw,by simp[su],λhh=>by have:=(Pv.block _ hh).1;omega,gd,qe Pv Pw (by decide),λi u x h1 h2=>?_⟩,h.lt,by have:=kw.kept.size;omega,λx hx=>?_,h.num,by simp only[List.length_append,List.length_cons,List.length_nil];omega⟩
  ·have AZ:i<(us++[(⟨va,s.length,vc⟩:SV)]).length:=(List.getElem?_eq_some_iff.1 h1).1;by_cases hi:i<us.length
   ·rw[List.getElem?_append_left hi]at h1;rw[List.getElem?_append_left (by omega)]at h2;exact((rO i u x h1 h2).below fo).Nz (λ_=>by simp[bL]) kc hkc kV
   have e:i=us.length:=by rw[List.length_append,List.length_cons,List.length_nil]at AZ;omega
   subst e;rw[List.getElem?_append_right (Nat.le_refl _),Nat.sub_self]at h1;rw[su,List.getElem?_append_right (Nat.le_refl _),Nat.sub_self]at h2;simp at h1 h2;subst h1;subst h2;exact(hv.below fo).Nz (λ_=>by simp[bL]) kc hkc kV
  rw[List.mem_append,List.mem_singleton]at hx;rcases hx with hx|rfl
  ·exact h.few x hx
  exact hr
 refine⟨trivial,?_⟩;push_cast -dsimp[c0];have hk:(((us++[(⟨va,s.length,vc⟩:SV)]).length:Nat):Int)-1=(c.sets.length:Nat):=by rw[hlu];omega
 refine⟨by omega,?_⟩;rw[hk];refine aG (th Mc (by simp only[List.length_append,List.length_cons,List.length_nil];omega) ⟨1,(c.sets.length:Int),0⟩) ?_ ?_
 ·rintro _ w3 ⟨hl,rfl,Fg,k3⟩;push_cast -dsimp;refine⟨hl,⟨_,c.sets.length,Fg,⟨λk y hy=>?_,λk y hy=>?_,by simp[aD.push];omega⟩,by simp[aD.push],by show (c.ins++[_])[c.ins.length]?=_;rw[List.getElem?_append_right (Nat.le_refl _),Nat.sub_self];rfl,by show (c.sets++[s])[c.sets.length]?=_;rw[List.getElem?_append_right (Nat.le_refl _),Nat.sub_self];rfl⟩,kw.trans k3⟩
  ·show (c.ins++[_])[k]?=some y
   rw[List.getElem?_append_left (List.getElem?_eq_some_iff.1 hy).1];exact hy
  show (c.sets++[s])[k]?=some y
  rw[List.getElem?_append_left (List.getElem?_eq_some_iff.1 hy).1];exact hy
 rintro ce w3 ⟨hl,ht,k3⟩;push_cast -dsimp;exact⟨hl,ht,kw.trans k3⟩
end Go.Proofs.YtledlfbbebodgaaGreatDoor
end
section
namespace Go.Vc
theorem Own.ZF {α:Type}{base k:Nat}{e:TypeId}{enc:α->List Value}{w:World}{b o n c:Nat}{l:List α}(h:Vc.Own base e k enc w (.slice (some ⟨b,o,none⟩) n c) l):o=0:=by
 rcases h.1.2 with ⟨he,_⟩|⟨g,cap,cr,he,_⟩
 ·cases he
 cases he;rfl
end Go.Vc
end
section
namespace Go.Proofs.YtledlfbbebodgaaGreatDoor
open Go.Vc Go.Proofs Go.RowKit Cae
attribute [local irreducible] dd ae ak a7 runK bE Sl Vc.Own vc aU cJ a8
theorem aQ.below {X:Nat->Prop}{w w':World}{l:List aF}{vs:List Nat}(h:aQ X w vs l)(hb:Below w.heap.size w w'):aQ X w' vs l :=
 aQ.mono (X:=λb=>X b\/w.heap.size<=b) (Y:=λb=>w.heap.size<=b) (Kept.aO hb (λi h1 h2=>h1)) (λ_ h=>.inr h) (λ_ h=>.inl h) h.top
theorem aQ.reverse {X:Nat->Prop}{w:World}:∀{l:List aF} {vs:List Nat},aQ X w vs l->aQ X w vs.reverse l.reverse
 | [],[],_=>by simp only[List.reverse_nil,aQ]
 | [],_::_,h=>by simp only[aQ]at h
 | _::_,[],h=>by simp only[aQ]at h
 | x::l,v::vs,h=>by
  simp only[aQ]at h;rw[List.reverse_cons,List.reverse_cons];exact aQ.snoc (aQ.reverse h.2) h.1
theorem M6 (l:List Nat)(base:Nat)(v:Value)(w:World)(hn:l.length<1000000000)(ho:Vc.Own base 35 1 fB w v l)(hb0:base<=w.heap.size) :
  bE Tryz.prog 77 [v] w λ_ w'=>Vc.Own base 35 1 fB w' v l.reverse/\Kept (λj=>v.ownBlock=some j) w w':=by
 obtain⟨a,c,rfl⟩:=ho.slice;refine aE Tryz.func77 rfl (by kernel_rfl) [] rfl ?_;push_cast -dsimp(maxSteps:=4000000) [Tryz.ntmps77];refine⟨⟨by omega,by omega⟩,?_⟩;refine aL [2,3,7,8,9,10,11,12,13,14,15,16,17,18,19,20,21,22,23,24,25,26,27] (λz wx=>∃(i:Nat) (cur:List Nat),z 2=.int .i64 i/\z 3=.int .i64 ((l.length:Int)-1-i)/\2*i<=l.length/\cur.length=l.length/\(∀k,k<l.length->cur[k]?=if k<i\/l.length-i<=k then l[l.length-1-k]? else l[k]?)/\Vc.Own base 35 1 fB wx (.slice a l.length c) cur/\Kept (λj=>(Value.slice a l.length c).ownBlock=some j) w wx) (λz _=>l.length-(intOf (z 2)).toNat) ?_ ?_
 ·exact⟨0,l,rfl,by simp[at_],by omega,rfl,λk hk=>by rw[if_neg (by omega)],ho,Kept.refl _ _⟩
 intro z wx hI;obtain⟨i,cur,h2,h3,hi,j1,Fo,kB,hb⟩:=hI;have EZ:=hb.size;push_cast -dsimp[h2,h3];refine⟨λaw=>?_,λfT=>?_⟩
 ·have hex:∃(x y:Nat) (g:Nat),cur[i]?=some x/\cur[l.length-1-i]?=some y/\a=some ⟨g,0,none⟩/\wx.cell? ⟨g,i,none⟩=some (bd x)/\wx.cell? ⟨g,l.length-1-i,none⟩=some (bd y):=by
   obtain⟨x,hx,_⟩:=au (l:=cur) (i:=i) (by omega);obtain⟨y,hy,_⟩:=au (l:=cur) (i:=l.length-1-i) (by omega);have hgx:=kB.sl.get hx;have QW:=kB.sl.get hy;obtain⟨b,o,e,_,hcx⟩:=hgx;obtain⟨b',o',e',_,hcy⟩:=QW;rw[e]at e';cases e';have ho0:o=0:=Vc.Own.ZF (by rw[<-e];exact kB);subst ho0;exact⟨x,y,b,hx,hy,e,by simpa using hcx 0 _ rfl,by simpa using hcy 0 _ rfl⟩
  obtain⟨x,y,g,hx,hy,he,cx,cy⟩:=hex;subst he;have ej:((l.length:Int)-1-i)=((l.length-1-i:Nat):Int):=by omega
  rw[ej];unfold bd at cx cy;refine Bz [0,1,2,3,4,5,6,7,8,9,10,11,12] 13 [14,15] (λw'=>w'=wx.drew) mixed (by kernel_rfl) rfl ?_;have cx':wx.drew.cell? ⟨g,i,none⟩=some (.pointer (some ⟨x,0,none⟩)):=cx;have cy':wx.drew.cell? ⟨g,l.length-1-i,none⟩=some (.pointer (some ⟨y,0,none⟩)):=cy;have GB:Vc.Own base 35 1 fB wx.drew (.slice (some ⟨g,0,none⟩) l.length c) cur:=kB.aI (Kept.refl (λ_=>False) _).drew (λ_ _ h=>h);push_cast -dsimp[cx',cy'];refine⟨⟨by omega,by omega⟩,λbU hC=>by rw[hC,cy'];exact rfl,⟨by omega,by omega⟩,λbU hC=>by rw[hC,cx'];exact rfl,⟨by omega,by omega⟩,?_⟩;refine vG (i:=i) (y:=y) GB rfl (by omega) rfl rfl ?_;intro w1 uP N9 sM;refine⟨trivial,?_⟩;push_cast -dsimp;refine⟨⟨by omega,by omega⟩,?_⟩;have vn:l.length-1-i<(cur.set i y).length:=by rw[List.length_set];omega
  have mj:(cur.set i y).length=cur.length:=List.length_set;refine vG (i:=l.length-1-i) (y:=x) uP rfl vn rfl rfl ?_;intro w2 ob nj HQ;have Cx:Kept (λj=>(Value.slice (some ⟨g,0,none⟩) l.length c).ownBlock=some j) wx w2:=(((Kept.refl (λj=>j=g) wx).drew).trans N9 (λ_ _ h=>h)).trans nj (λ_ _ h=>h) |>.weaken (λj _ h=>by rw[h];rfl);refine⟨trivial,?_⟩;push_cast -dsimp;refine⟨⟨by omega,by omega⟩,⟨by omega,by omega⟩,⟨i+1,(cur.set i y).set (l.length-1-i) x,rfl,by congr 1;omega,by omega,by rw[List.length_set,List.length_set];exact j1,λk hk=>?_,ob,hb.trans Cx (λ_ _ h=>h)⟩,by rw[h2];simp only[intOf];omega⟩;rw[List.getElem?_set,List.getElem?_set];have Cp:=Fo i (by omega);have qN:=Fo (l.length-1-i) (by omega);rw[if_neg (by omega)]at Cp qN;rw[hx]at Cp;rw[hy]at qN;by_cases e1:l.length-1-i=k
  ·rw[if_pos e1,if_pos vn,if_pos (by omega),Cp];congr 1;omega
  rw[if_neg e1];by_cases e2:i=k
  ·rw[if_pos e2,if_pos (by omega),if_pos (by omega),qN];congr 1;omega
  rw[if_neg e2,Fo k hk];by_cases e3:k<i\/l.length-i<=k
  ·rw[if_pos e3,if_pos (by omega)]
  rw[if_neg e3,if_neg (by omega)]
 have aE7:cur=l.reverse:=by
  apply List.ext_getElem?;intro k;by_cases hk:k<l.length
  ·rw[Fo k hk,List.getElem?_reverse hk];split
   ·rfl
   congr 1;omega
  rw[List.getElem?_eq_none (by omega),List.getElem?_eq_none (by rw[List.length_reverse];omega)]
 subst aE7;exact⟨kB,hb⟩
end Go.Proofs.YtledlfbbebodgaaGreatDoor
end
section
namespace Cae
theorem lV:∀(l m:List aF),br (l++m)=br l+br m
 | [],m=>by simp[br]
 | x::l,m=>by rw[List.cons_append,br,br,lV l m];omega
theorem iT:∀(l:List aF),br l.reverse=br l
 | []=>rfl
 | x::l=>by rw[List.reverse_cons,lV,iT l,br,br,br];omega
theorem zt (l:List aF)(i:Nat){y:aF}(h:l[i]?=some y):br (l.take i)+bK y<=br l/\br (l.take (i+1))=br (l.take i)+bK y:=by
 obtain⟨aw,he⟩:=List.getElem?_eq_some_iff.1 h;have e1:l.take (i+1)=l.take i++[y]:=by rw[List.take_add_one,h];rfl
 have e2:br (l.take (i+1))=br (l.take i)+bK y:=by rw[e1,lV];simp[br]
 have e3:br l=br (l.take (i+1))+br (l.drop (i+1)):=by rw[<-lV,List.take_append_drop]
 exact⟨by omega,e2⟩
section
variable {has:ao->Int->Prop} {c c':aD} {back:Bool}
theorem Jq {back:Bool}:∀(l m:List aF) (a b:Nat),kJ has c back (l++m) a b↔∃k,kJ has c back l a k/\kJ has c back m k b
 | [],m,a,b=>by simp[kJ]
 | x::l,m,a,b=>by
  simp only[List.cons_append,kJ,Jq l m];constructor
  ·rintro⟨k,h1,j,h2,h3⟩;exact⟨j,⟨k,h1,h2⟩,h3⟩
  rintro⟨j,⟨k,h1,h2⟩,h3⟩;exact⟨k,h1,j,h2,h3⟩
def yV (has:ao->Int->Prop)(c:aD)(back:Bool)(l:List aF)(n a b:Nat):Prop:=if back then nX has c back (l.drop (l.length-n)) a b else kJ has c back (l.take n) a b
def oS (back:Bool)(l:List aF):List aF:=if back then l.reverse else l
theorem uq (l:List aF):(oS back l).length=l.length:=by unfold oS;split<;>simp
theorem ET {l:List aF}{a:Nat}:yV has c back l 0 a a:=by
 unfold yV;split
 ·simp[nX]
 simp[kJ]
theorem Js {l:List aF}{a b:Nat}:yV has c back l l.length a b↔iK has c back (.cat l) a b:=by
 unfold yV;simp only[iK,Nat.sub_self,List.drop_zero,List.take_length]
theorem ES {l:List aF}{n:Nat}{x:aF}{a m b:Nat}(hx:(oS back l)[n]?=some x)(h1:yV has c back l n a m)(h2:iK has c back x m b):yV has c back l (n+1) a b:=by
 unfold yV at h1 ⊢
 unfold oS at hx;by_cases hb:back=true
 ·rw[if_pos hb]at h1 hx ⊢
  have hn:n<l.length:=by have:=(List.getElem?_eq_some_iff.1 hx).1;rw[List.length_reverse]at this;exact this
  rw[List.getElem?_reverse hn]at hx;have aw:l.length-(n+1)<l.length:=by omega
  have e:l.drop (l.length-(n+1))=x::l.drop (l.length-n):=by
   rw[List.drop_eq_getElem_cons aw];have e1:l.length-(n+1)+1=l.length-n:=by omega
   rw[e1];congr 1;have e2:l.length-1-n=l.length-(n+1):=by omega
   rw[e2,List.getElem?_eq_getElem aw]at hx;exact Option.some.inj hx
  rw[e];simp only[nX];exact⟨m,h1,h2⟩
 rw[if_neg hb]at h1 hx ⊢
 have e:l.take (n+1)=l.take n++[x]:=by rw[List.take_add_one,hx];rfl
 rw[e,Jq];exact⟨m,h1,b,h2,by simp[kJ]⟩
theorem ER {l:List aF}{n a b:Nat}(hs:eL c c' a b)(h:yV has c back l n a b):yV has c' back l n a b:=by
 unfold yV at h ⊢
 by_cases hb:back=true
 ·rw[if_pos hb]at h ⊢;exact wO _ a b hs h
 rw[if_neg hb]at h ⊢;exact wQ _ a b hs h
end
end Cae
namespace Go.Proofs.YtledlfbbebodgaaGreatDoor
open Go.Vc Go.Proofs Go.RowKit Cae
attribute [local irreducible] dd ae ak a7 runK bE Sl Vc.Own vc aU cJ a8
theorem Ext.same {c c':aD}(h:Ext c c'){a b:Nat}(hb:b<=c.ins.length):eL c c' a b:=⟨λk h1 h2=>by
 rw[List.getElem?_eq_getElem (show k<c.ins.length by omega)]
 exact h.ins k _ (List.getElem?_eq_getElem (by omega)),h.sets⟩
theorem fW.kept {X Y X':Nat->Prop}{w w':World}{b:Nat}{nm:bG}(h:fW X w b nm)(hk:Kept Y w w')(hY:∀i,Y i->X i)(hb:¬Y b)(hX:∀i,X' i->X i):fW X' w' b nm:=by
 obtain⟨gg,h2,h3⟩:=h;exact⟨gg,h2.kept hk hb,h3.imp λa b h=>⟨h.1,(h.2.1.kept hk hY).weaken hX,h.2.2⟩⟩
def ny (x:aF):Prop:=aj x->wd x<=100000->∀(nm:bG),fi nm x=none->gh nm->∀(B mb nb:Nat) (back:Bool) (X Z:Nat->Prop) (w:World) (c:aD) (v:Value),Mk B mb nb back X w c->(∀b,X b->(Z b\/b=mb\/B<=b)/\b<w.heap.size)->nb<mb->fW (λb=>Z b\/b=mb\/B<=b) w nb nm->ai (λb=>Z b\/b=mb\/B<=b) w v x->c.sets.length<=c.ins.length ->
 yB Tryz.prog 48 [.pointer (some ⟨mb,0,none⟩),v] w
  (λr w'=>(∃c',Mk B mb nb back X w' c'/\Ext c c'/\c'.ins.length=c.ins.length+bK x/\iK (bD nm) c' back x c.ins.length c'.ins.length)/\gO mb w w')
  (λce w'=>2000<c.ins.length+bK x/\Kq 4 ce/\gO mb w w')
theorem Mk.own {B mb nb:Nat}{back:Bool}{X Z:Nat->Prop}{w:World}{c:aD}{sv iv:Value}{us:List SV}(h:Mk B mb nb back X w c)(hM:MkB B mb nb back X w c sv iv us)(hX:∀b,X b->(Z b\/b=mb\/B<=b)/\b<w.heap.size){b:Nat}(hb:X b\/b=mb\/sv.ownBlock=some b\/iv.ownBlock=some b):(Z b\/b=mb\/B<=b)/\b<w.heap.size :=
 hb.elim (hX b) λhb=>⟨.inr (h.mw ((eT hM.1).2 hb)).1,(h.mw ((eT hM.1).2 hb)).2⟩
theorem aDx (k:ao):ny (.one k):=by
 intro bJ jE nm jM hr B mb nb back X Z w c v h hX jh hN hV qT;simp only[aj]at bJ;simp only[ai]at hV;obtain⟨xb,u,rfl,xW,hB,hK⟩:=hV;obtain⟨kb,rfl,Cv⟩:=hK.ptr;have jM:∃s,cH nm k=.ok s:=by
  simp only[fi]at jM;cases hk:cH nm k with
  | ok s=>exact⟨s,rfl⟩
  | error e=>rw[hk]at jM;cases jM
 obtain⟨s,hs⟩:=jM;have ba:=h.st;obtain⟨sv,iv,us,hM⟩:=ba;have Yc:=hM.1;have aw:=h.lt;have hle:=h.le;have d0:w.cell? ⟨xb,0,none⟩=some (.int .i64 1):=hB.cell rfl;refine bM Tryz.func48 rfl (by kernel_rfl) [] rfl ?_;push_cast -dsimp(maxSteps:=4000000) [Tryz.ntmps48];push_cast -dsimp[d0];have d1:w.drew.cell? ⟨xb,1,none⟩=some (.pointer (some ⟨kb,0,none⟩)):=hB.drew.cell rfl;have d2:w.drew.cell? ⟨mb,2,none⟩=some (.map (some nb)):=Yc.drew.cell rfl;refine bx (λw'=>aM w' xb 39 [.int .i64 1,.pointer (some ⟨kb,0,none⟩),.slice none 0 0,.int .i64 0,.int .i64 0]/\aM w' mb 115 [sv,iv,.map (some nb),.bool back]) mixed (by kernel_rfl) ⟨hB.drew,Yc.drew⟩ ?_;push_cast -dsimp[d1,d2];refine⟨λbU h=>by rw[h.1.cell (o:=1) rfl];exact rfl,λbU h=>by rw[h.2.cell (o:=2) rfl];exact rfl,?_⟩;have vL:=bl w;refine aA (yd k bJ nm hr (λb=>Z b\/b=mb\/B<=b) _ nb w.drew (hK.drew) (hN.below vL)) ?_;rintro r w1 ⟨hR,gX⟩;have QM:Below w.heap.size w w1:=vL.trans (gX.mono (Nat.le_refl _));have z1:=QM.size;unfold cY at hR;rw[hs]at hR;obtain⟨kv,rfl,AY,HH⟩:=hR;have hkr:=eC hr bJ hs;refine⟨⟨hB.below QM hB.lt,Yc.below QM Yc.lt⟩,?_⟩;obtain⟨ka,kc,rfl,hkc⟩:=AY.shape;push_cast -dsimp;have h1:=h.below QM;have Ka:=hM.below QM;have k1:gO mb w w1:=gO.below QM (by omega);refine aG (OC h1 Ka qT s hkr _ (AY.weaken (λb hb=>h.own hM hX hb))) ?_ ?_
 ·rintro _ w2 ⟨hl,⟨c',i,Ff,hE,hlen,Cs,sq⟩,k2⟩;push_cast -dsimp;refine⟨⟨c',Ff,hE,by simp only[bK];exact hlen,?_⟩,k1.trans k2⟩;simp only[iK];refine⟨hlen,i,s,Cs,sq,λp=>?_⟩;unfold bD;constructor
  ·intro hp;exact⟨s,hs,hp⟩
  rintro⟨t,ht,hp⟩;rw[hs]at ht;cases ht;exact hp
 rintro ce w2 ⟨hl,ht,k2⟩;push_cast -dsimp;exact⟨by simp only[bK];omega,ht,k1.trans k2⟩
end Go.Proofs.YtledlfbbebodgaaGreatDoor
end
section
namespace Cae
theorem wK:∀l:List aF,jF l=l.map mV
 | []=>rfl
 | x::l=>by rw[jF,wK l];rfl
theorem Dp (l:List (List UInt8))(sep:List UInt8):(Go.Lib.join l sep).length=sep.length*(l.length-1)+(l.map List.length).sum:=by
 cases l with
 | nil=>rfl
 | cons x r=>rw[Go.Lib.join_length];simp[Go.Lib.lens]
theorem Ag (b:Bool)(s:List UInt8):(oK b s).length=s.length+if b then 2 else 0:=by
 unfold oK;cases b<;>simp
mutual
theorem Xa:∀(x:aF) (n:Nat),(aW (mV x) n).length=(aW x n).length
 | .one k,n=>rfl
 | .any,n=>rfl
 | .fY,n=>rfl
 | .cat l,n=>by
  simp only[mV,aW,Ag,Dp,fE,List.length_map,List.length_reverse,List.map_reverse,List.sum_reverse];have h:=Gc l 2;rw[fE,fE]at h;rw[h,wK,List.length_map]
 | .alt l,n=>by
  simp only[mV,aW,Ag,Dp,fE,List.length_map];have h:=Gc l 1;rw[fE,fE]at h;rw[h,wK,List.length_map]
 | .many x lo hi,n=>by
  simp only[mV,aW,List.length_append];rw[Xa x 2]
theorem Gc:∀(l:List aF) (n:Nat),(ar (jF l) n).map List.length=(ar l n).map List.length
 | [],n=>rfl
 | x::l,n=>by
  simp only[jF,ar,List.map_cons];rw[Xa x n,Gc l n]
end
theorem BR:∀{l:List aF},bz l↔∀x∈l,aj x
 | []=>by simp[bz]
 | x::l=>by simp only[bz,BR (l:=l),List.forall_mem_cons]
mutual
theorem XH:∀x:aF,aj x->aj (mV x)
 | .one k,h=>h
 | .any,h=>h
 | .fY,h=>h
 | .cat l,h=>by
  simp only[aj]at h;simp only[mV,aj]
  have:=G3 l h;rw[BR]at this ⊢
  intro y hy;exact this y (List.mem_reverse.1 hy)
 | .alt l,h=>by
  simp only[aj]at h;simp only[mV,aj];exact G3 l h
 | .many x lo hi,h=>by
  simp only[aj]at h;simp only[mV,aj];exact⟨XH x h.1,h.2⟩
theorem G3:∀l:List aF,bz l->bz (jF l)
 | [],h=>h
 | x::l,h=>by
  simp only[bz]at h;simp only[jF,bz];exact⟨XH x h.1,G3 l h.2⟩
end
theorem gv {nm:bG}:∀{l:List aF},gu nm l=none↔∀x∈l,fi nm x=none
 | []=>by simp[gu]
 | x::l=>by
  rw[gu,List.forall_mem_cons,<-gv (l:=l)];cases fi nm x with
  | some e=>simp
  | none=>simp
mutual
theorem OJ {nm:bG}:∀x:aF,fi nm x=none->fi nm (mV x)=none
 | .one k,h=>h
 | .any,h=>h
 | .fY,h=>h
 | .cat l,h=>by
  simp only[fi]at h;simp only[mV,fi]
  have:=BT l h;rw[gv]at this ⊢
  intro y hy;exact this y (List.mem_reverse.1 hy)
 | .alt l,h=>by
  simp only[fi]at h;simp only[mV,fi];exact BT l h
 | .many x lo hi,h=>by
  simp only[fi]at h;simp only[mV,fi];exact OJ x h
theorem BT {nm:bG}:∀l:List aF,gu nm l=none->gu nm (jF l)=none
 | [],h=>h
 | x::l,h=>by
  rw[gv,List.forall_mem_cons]at h;rw[jF,gv,List.forall_mem_cons];exact⟨OJ x h.1,gv.1 (BT l (gv.2 h.2))⟩
end
theorem xo {nm:bG}:∀{l:List cD},gF nm l=none↔∀r∈l,fi nm r.before=none/\fi nm r.after=none
 | []=>by simp[gF]
 | r::l=>by
  rw[gF,List.forall_mem_cons,<-xo (l:=l),EM];cases fi nm r.before with
  | some e=>simp
  | none =>
   cases fi nm r.after with
   | some e=>simp
   | none=>simp
end Cae
end
section
namespace Go.Proofs.YtledlfbbebodgaaGreatDoor
open Go.Vc Go.Proofs Go.RowKit Cae
attribute [local irreducible] dd ae ak a7 runK bE Sl Vc.Own vc aU cJ a8
theorem UR (vs:List Nat)(hl:vs.length<1000000000)(X:Nat->Prop)(v:Value)(w:World)(hv:Sl X 1 (En fB) w v vs) :
  bE Tryz.prog 76 [v] w λr w'=>Vc.Own w.heap.size 35 1 fB w' r vs/\Below w.heap.size w w':=by
 obtain⟨a,c,rfl,hc⟩:=hv.shape;refine aE Tryz.func76 rfl (by kernel_rfl) [2] rfl ?_;push_cast -dsimp(maxSteps:=4000000) [Tryz.ntmps76];cases a with
 | none =>
  have:vs=[]:=by
   cases vs with
   | nil=>rfl
   | cons y ys=>obtain⟨b,o,h,_⟩:=hv.get (i:=0) (x:=y) rfl;cases h
  subst this;push_cast -dsimp[aCn];exact⟨Vc.Own.nil (enc:=fB) _ _ (λ_=>rfl) _,Below.refl _ _⟩
 | some ad =>
  push_cast -dsimp[aCo];refine cT iM rfl rfl (by omega) ?_;intro w1 aZ;have uP:=aZ.own (base:=w.heap.size) (k:=1) (n:=0) (enc:=fB) (l:=[]) rfl rfl (λ_=>rfl) (Nat.le_refl _) (by omega);have sM:=aZ.size;push_cast -dsimp;refine ln (base:=w.heap.size) (enc:=fB) (ys:=vs) iM uP (hv.below aZ.below) (λn c h=>by cases h) mK (by simp only[List.length_nil];omega) (by omega) ?_;intro v' w2 ob hg2 eR;rw[List.nil_append]at ob;push_cast -dsimp;exact⟨ob,aZ.below.trans eR⟩
theorem aDv:ny .any:=by
 intro bJ jE nm jM hr B mb nb back X Z w c v h hX jh hN hV qT;simp only[ai]at hV;obtain⟨xb,rfl,xW,hB⟩:=hV;have ba:=h.st;obtain⟨sv,iv,us,hM⟩:=ba;have aw:=h.lt;have hle:=h.le;have d0:w.cell? ⟨xb,0,none⟩=some (.int .i64 2):=hB.cell rfl;refine bM Tryz.func48 rfl (by kernel_rfl) [] rfl ?_;push_cast -dsimp(maxSteps:=4000000) [Tryz.ntmps48];push_cast -dsimp[d0];refine cT ir rfl rfl (by omega) ?_;intro w1 aZ;have z1:=aZ.size;have uP:Vc.Own w.heap.size 46 2 bL w1 (.slice (some ⟨w.heap.size,0,none⟩) 1 1) [((0:Int),(1114111:Int))]:=aZ.own (by rfl) rfl (λ_=>rfl) (Nat.le_refl _) (by omega);have h1:=h.below aZ.below;have Ka:=hM.below aZ.below;have k1:gO mb w w1:=gO.below aZ.below (by omega);push_cast -dsimp;refine aG (OC h1 Ka qT [((0:Int),(1114111:Int))] (by decide) _ (?_:Sl _ 2 (En bL) w1 _ [((0:Int),(1114111:Int))])) ?_ ?_
 ·exact uP.sl.weaken (λb hb=>(h.own hM hX hb).2)
 ·rintro _ w2 ⟨hl,⟨c',i,Ff,hE,hlen,Cs,sq⟩,k2⟩;push_cast -dsimp;refine⟨⟨c',Ff,hE,by simp only[bK];exact hlen,?_⟩,k1.trans k2⟩;simp only[iK];exact⟨hlen,i,_,Cs,sq,λp hp0 HI=>by simp[fK];omega⟩
 rintro ce w2 ⟨hl,ht,k2⟩;push_cast -dsimp;exact⟨by simp only[bK];omega,ht,k1.trans k2⟩
theorem ZV:ny .fY:=by
 intro bJ jE nm jM hr B mb nb back X Z w c v h hX jh hN hV qT;simp only[ai]at hV;obtain⟨xb,rfl,xW,hB⟩:=hV;have WE:=h.num;have d0:w.cell? ⟨xb,0,none⟩=some (.int .i64 3):=hB.cell rfl;refine bM Tryz.func48 rfl (by kernel_rfl) [] rfl ?_;push_cast -dsimp(maxSteps:=4000000) [Tryz.ntmps48];push_cast -dsimp[d0];refine aG (th h (by omega) ⟨4,0,0⟩) ?_ ?_
 ·rintro _ w1 ⟨hl,rfl,Ka,k1⟩;push_cast -dsimp;refine⟨⟨_,Ka,Ext.push c _,by simp[aD.push,bK],?_⟩,k1⟩;simp only[iK];refine⟨by simp[aD.push],?_⟩
  show (c.ins++[_])[c.ins.length]?=_
  rw[List.getElem?_append_right (Nat.le_refl _),Nat.sub_self];rfl
 rintro ce w1 ⟨hl,ht,k1⟩;push_cast -dsimp;exact⟨by simp only[bK];omega,ht,k1⟩
theorem aDw (l:List aF)(cN:∀y∈l,ny y):ny (.cat l):=by
 intro bJ jE nm jM hr B mb nb back X Z w c v h hX jh hN hV qT;simp only[aj]at bJ;simp only[fi]at jM;have Li:=gv.1 jM;simp only[ai]at hV;obtain⟨xb,psv,vs,rfl,xW,hB,hs,hVl⟩:=hV;have hvl:=hVl.len;have uR:=wW (l:=l);have aN0:=uR.2.1;have ba:=h.st;obtain⟨sv,iv,us,hM⟩:=ba;have Yc:=hM.1;have aw:=h.lt;have hle:=h.le;obtain⟨pa,pc,rfl,aE4⟩:=hs.shape;have d0:w.cell? ⟨xb,0,none⟩=some (.int .i64 4):=hB.cell rfl;have d2:w.cell? ⟨xb,2,none⟩=some (.slice pa vs.length pc):=hB.cell rfl;refine bM Tryz.func48 rfl (by kernel_rfl) [] rfl ?_;push_cast -dsimp(maxSteps:=4000000) [Tryz.ntmps48];push_cast -dsimp[d0,d2];refine aA (UR vs (by omega) _ _ w hs) ?_;rintro cv w1 ⟨hC,gX⟩;have z1:=gX.size;have hcb:=hC.block;have hV1:=aQ.below hVl gX;have e3:w1.cell? ⟨mb,3,none⟩=some (.bool back):=(Yc.below gX Yc.lt).cell rfl;cases back with
 | false =>
  obtain⟨ca,cc,rfl⟩:=hC.slice;push_cast -dsimp[e3];have qJ:=gX;have zS:=qJ.size;have hS:=h.below qJ;have kS:gO mb w (w1):=gO.below qJ (by omega);have hwS:∀i,Mw (w1) mb i->i<w.heap.size:=λi hi=>by
   rcases kS.own i hi with h1|h1
   ·exact(h.mw h1).2
   have h2:=(hS.mw hi).2;have hN0:∀j,Mw (w1) mb j->Mw w mb j:=λj hj=>by
    rcases hj with hj|⟨o,v,e1,e2⟩
    ·exact .inl hj
    refine .inr ⟨o,v,?_,e2⟩;rw[<-qJ.cell (p:=⟨mb,o,none⟩) (by show mb<_;omega)]
    exact e1
   exact(h.mw (hN0 i hi)).2
  have hNS:=hN.below qJ;have VW:vs.length=l.length:=by simp[hvl]
  refine aL [8,63,64,65,66,67,68,69,70] (λz wx=>∃(i:Nat) (ci:aD),z 63=.int .i64 i/\i<=l.length/\Mk B mb nb false X wx ci/\Ext c ci/\ci.ins.length=c.ins.length+br ((oS false l).take i)/\yV (bD nm) ci false l i c.ins.length ci.ins.length/\gO mb (w1) wx) (λz _=>l.length-(intOf (z 63)).toNat) ?_ ?_
  ·exact⟨0,c,rfl,Nat.zero_le _,hS,Ext.refl c,by simp[br],ET,gO.refl (by omega)⟩
  intro z wx hI;obtain⟨i,ci,h63,hi,CK,CJ,Ip,od,kx⟩:=hI;have Qw:=kx.out hS;have zx:=kx.kept.size;push_cast -dsimp[h63];refine⟨λaw=>?_,λfT=>?_⟩
  ·obtain⟨y,hy,HO,_,_⟩:=au (l:=oS false l) (i:=i) (by rw[uq];omega);have hyl:y∈l:=by unfold oS at HO;split at HO<;>first|exact List.mem_reverse.1 HO|exact HO
   obtain⟨u,hu,hVy⟩:=aQ.nth (hV1) hy;have QF:ai (λb=>Z b\/b=mb\/B<=b) wx (bd u) y:=ai.mono Qw (λ_ h=>.inr h) (λ_ h=>h) hVy;have hNx:fW (λb=>Z b\/b=mb\/B<=b) wx nb nm:=fW.kept hNS Qw (λ_ h=>.inr h) (λh=>by rcases h with h|h<;>omega) (λ_ h=>h);obtain⟨b1,o,rfl,_,aK⟩:=(Sl.kept (hC.sl) kx.kept (λj hj=>hwS j hj)).get hu;have c0:wx.cell? ⟨b1,o+i,none⟩=some (.pointer (some ⟨u,0,none⟩)):=by simpa[fB,bd] using aK 0 _ rfl
   have j1:=zt (oS false l) i hy;have hco:br (oS false l)=br l:=by unfold oS;split<;>first|exact iT l|rfl
   push_cast -dsimp[c0];refine⟨⟨by omega,by omega⟩,?_⟩;refine aG (cN y hyl (fe bJ hyl) (by have:=uR.2.2 y hyl;omega) nm (Li y hyl) hr B mb nb false X Z wx ci _ CK (λb hb=>by have:=hX b hb;exact⟨this.1,by omega⟩) jh hNx QF (by have:=CJ.sum;omega)) ?_ ?_
   ·rintro _ wy ⟨⟨cy,Zy,NU,hly,pY⟩,ky⟩;push_cast -dsimp;refine⟨⟨by omega,by omega⟩,⟨i+1,cy,rfl,by omega,Zy,CJ.trans NU,by rw[hly,Ip,j1.2];omega,ES hy (ER (NU.same (Nat.le_refl _)) od) pY,kx.trans ky⟩,by rw[h63];simp only[intOf];omega⟩
   rintro ce wy ⟨mn,ht,ky⟩;push_cast -dsimp;exact⟨by simp only[bK];omega,ht,(kS.trans kx).trans ky⟩
  have HG:i=l.length:=by omega
  subst HG;rw[List.take_of_length_le (by rw[uq];exact Nat.le_refl _)]at Ip;have hco:br (oS false l)=br l:=by unfold oS;split<;>first|exact iT l|rfl
  exact⟨⟨ci,CK,CJ,by simp only[bK];omega,Js.1 od⟩,kS.trans kx⟩
 | true =>
  push_cast -dsimp[e3];refine aA (M6 vs _ cv w1 (by omega) hC (by omega)) ?_;rintro _ w2 ⟨hD,nj⟩;have eR:Below w.heap.size w w2:=gX.trans (nj.below (by omega) (λi h=>(hcb i h).1));have p8:aQ (λb=>Z b\/b=mb\/B<=b) w2 vs.reverse l.reverse:=aQ.reverse (hVl.below eR);obtain⟨ca,cc,rfl⟩:=hD.slice;push_cast -dsimp;have qJ:=eR;have zS:=qJ.size;have hS:=h.below qJ;have kS:gO mb w (w2):=gO.below qJ (by omega);have hwS:∀i,Mw (w2) mb i->i<w.heap.size:=λi hi=>by
   rcases kS.own i hi with h1|h1
   ·exact(h.mw h1).2
   have h2:=(hS.mw hi).2;have hN0:∀j,Mw (w2) mb j->Mw w mb j:=λj hj=>by
    rcases hj with hj|⟨o,v,e1,e2⟩
    ·exact .inl hj
    refine .inr ⟨o,v,?_,e2⟩;rw[<-qJ.cell (p:=⟨mb,o,none⟩) (by show mb<_;omega)]
    exact e1
   exact(h.mw (hN0 i hi)).2
  have hNS:=hN.below qJ;have VW:vs.reverse.length=l.length:=by simp[hvl]
  refine aL [8,63,64,65,66,67,68,69,70] (λz wx=>∃(i:Nat) (ci:aD),z 63=.int .i64 i/\i<=l.length/\Mk B mb nb true X wx ci/\Ext c ci/\ci.ins.length=c.ins.length+br ((oS true l).take i)/\yV (bD nm) ci true l i c.ins.length ci.ins.length/\gO mb (w2) wx) (λz _=>l.length-(intOf (z 63)).toNat) ?_ ?_
  ·exact⟨0,c,rfl,Nat.zero_le _,hS,Ext.refl c,by simp[br],ET,gO.refl (by omega)⟩
  intro z wx hI;obtain⟨i,ci,h63,hi,CK,CJ,Ip,od,kx⟩:=hI;have Qw:=kx.out hS;have zx:=kx.kept.size;push_cast -dsimp[h63];refine⟨λaw=>?_,λfT=>?_⟩
  ·obtain⟨y,hy,HO,_,_⟩:=au (l:=oS true l) (i:=i) (by rw[uq];omega);have hyl:y∈l:=by unfold oS at HO;split at HO<;>first|exact List.mem_reverse.1 HO|exact HO
   obtain⟨u,hu,hVy⟩:=aQ.nth (p8) hy;have QF:ai (λb=>Z b\/b=mb\/B<=b) wx (bd u) y:=ai.mono Qw (λ_ h=>.inr h) (λ_ h=>h) hVy;have hNx:fW (λb=>Z b\/b=mb\/B<=b) wx nb nm:=fW.kept hNS Qw (λ_ h=>.inr h) (λh=>by rcases h with h|h<;>omega) (λ_ h=>h);obtain⟨b1,o,rfl,_,aK⟩:=(Sl.kept (hD.sl) kx.kept (λj hj=>hwS j hj)).get hu;have c0:wx.cell? ⟨b1,o+i,none⟩=some (.pointer (some ⟨u,0,none⟩)):=by simpa[fB,bd] using aK 0 _ rfl
   have j1:=zt (oS true l) i hy;have hco:br (oS true l)=br l:=by unfold oS;split<;>first|exact iT l|rfl
   push_cast -dsimp[c0];refine⟨⟨by omega,by omega⟩,?_⟩;refine aG (cN y hyl (fe bJ hyl) (by have:=uR.2.2 y hyl;omega) nm (Li y hyl) hr B mb nb true X Z wx ci _ CK (λb hb=>by have:=hX b hb;exact⟨this.1,by omega⟩) jh hNx QF (by have:=CJ.sum;omega)) ?_ ?_
   ·rintro _ wy ⟨⟨cy,Zy,NU,hly,pY⟩,ky⟩;push_cast -dsimp;refine⟨⟨by omega,by omega⟩,⟨i+1,cy,rfl,by omega,Zy,CJ.trans NU,by rw[hly,Ip,j1.2];omega,ES hy (ER (NU.same (Nat.le_refl _)) od) pY,kx.trans ky⟩,by rw[h63];simp only[intOf];omega⟩
   rintro ce wy ⟨mn,ht,ky⟩;push_cast -dsimp;exact⟨by simp only[bK];omega,ht,(kS.trans kx).trans ky⟩
  have HG:i=l.length:=by omega
  subst HG;rw[List.take_of_length_le (by rw[uq];exact Nat.le_refl _)]at Ip;have hco:br (oS true l)=br l:=by unfold oS;split<;>first|exact iT l|rfl
  exact⟨⟨ci,CK,CJ,by simp only[bK];omega,Js.1 od⟩,kS.trans kx⟩
end Go.Proofs.YtledlfbbebodgaaGreatDoor
end
