/- Texts of this claim, merged: Ppr, Pr1, Pr2, CAny, Pcod, Pcod2, Pcod3, Plim, Plim2, EqR, Cd1, Cd2. -/
import Derived.Test.YtemjejfpadnljaaGreatDoorM12
import Derived.Shelf.Strings.IndexAnyAll
set_option maxRecDepth 100000
set_option linter.unusedSimpArgs false
set_option linter.unusedVariables false
set_option maxHeartbeats 8000000
namespace Go.Proofs.YtemjejfpadnljaaGreatDoor
open Go.Vc Go.Proofs Go.RowKit Cae
def nO (dG:Bool)(ps:List Int)(i:Nat)(l:List bW):Bool:=l.foldr (λr acc=>if fO ps i r then r.brk else acc) dG
theorem PA (p:bN)(ps:List Int)(i:Nat):ee p ps i 0=nO p.dG ps i p.rules:=by unfold ee nO;rw[List.drop_zero]
theorem ly (dG:Bool)(ps:List Int)(i:Nat)(a b:List bW):nO dG ps i (a++b)=nO (nO dG ps i b) ps i a:=by unfold nO;rw[List.foldr_append]
theorem mZ (dG:Bool)(ps:List Int)(i:Nat)(r:bW)(l:List bW):nO dG ps i (r::l)=if fO ps i r then r.brk else nO dG ps i l:=rfl
theorem SA {p:bN}{out:List bW}(h:∀ps i,nO p.dG ps i p.rules=nO p.dG ps i out)(ps:List Int):fH ⟨out,p.dG⟩ ps=fH p ps:=by
 unfold fH bZ;congr 2;funext i;unfold nJ;rw[PA,PA,h]
def iY:List bW->Nat
 | []=>0
 | r::l=>r.before.ins.length+r.after.ins.length+iY l
theorem wZ:∀(a b:List bW),iY (a++b)=iY a+iY b
 | [],b=>by simp[iY]
 | r::a,b=>by rw[List.cons_append,iY,iY,wZ a b];omega
def nC (c:aD):Bool:=match c.ins[0]? with
 | none=>false
 | some x=>decide (x.op=1) && decide ((c.sets.getD x.a.toNat []).length=0)
def tZ (c:aD):Bool:=match c.ins[0]? with
 | none=>false
 | some x=>decide (x.op=5)
theorem IB {c:aD}(hc:CR c)(h:nC c=true)(ps:List Int):(eo c ps).1=false:=by
 cases hm:(eo c ps).1 with
 | false=>rfl
 | true =>
  have ha:=(mf hc ps).1 hm;unfold nC at h;cases hx:c.ins[0]? with
  | none=>rw[hx]at h;cases h
  | some x =>
   rw[hx]at h;simp only[Bool.and_eq_true,decide_eq_true_eq]at h;rw[gg hx (by omega)]at ha;obtain⟨p,r,_,hp,_⟩:=ha;rw[List.eq_nil_of_length_eq_zero h.2]at hp;exact absurd hp (by simp[fA])
theorem Pk {c:aD}(hc:CR c)(h:tZ c=true)(ps:List Int):(eo c ps).1=true:=by
 rw[mf hc];unfold tZ at h;cases hx:c.ins[0]? with
 | none=>rw[hx]at h;cases h
 | some x =>
  rw[hx]at h;exact lN hx (by simpa using h)
structure fi (r s:bW):Prop where
 brk:s.brk=r.brk
 cb:CR r.before
 ca:CR r.after
 before:fW r.before s.before
 after:fW r.after s.after
theorem fi.met {r s:bW}(h:fi r s)(ps:List Int)(i:Nat):fO ps i s=fO ps i r:=by
 unfold fO;rw[h.before.vm h.cb,h.after.vm h.ca]
theorem fi.dead {r s:bW}(h:fi r s)(hd:nC s.before=true\/nC s.after=true)(ps:List Int)(i:Nat):fO ps i r=false:=by
 rw[<-h.met];unfold fO;rcases hd with hd|hd
 ·rw[IB h.before.cr hd];rfl
 rw[IB h.after.cr hd];simp
theorem fi.yes {r s:bW}(h:fi r s)(h1:tZ s.before=true)(h2:tZ s.after=true)(ps:List Int)(i:Nat):fO ps i s=true:=by
 unfold fO;rw[Pk h.before.cr h1,Pk h.after.cr h2];rfl
def LI (p:bN):Prop:=∃r l,p.rules=r::l/\(r.before.ins.length=1/\Acc r.before 0 [])/\(r.after.ins.length=1/\Acc r.after 0 [])
def LK (r:bW):Prop:=(aV r.before=true/\aV r.after=true)/\mr r.before/\mr r.after
theorem fi.ok {r s:bW}(h:fi r s):LK s:=by
 have a1:=h.before.cr.many;have a2:=h.before.cr.sets;have a3:=h.after.cr.many;have a4:=h.after.cr.sets;exact⟨⟨h.before.cr.to,h.after.cr.to⟩,⟨h.before.lens,by omega,by omega⟩,h.after.lens,by omega,by omega⟩
structure mA (p:bN)(out:List bW):Prop where
 TA:∀ps i,nO p.dG ps i p.rules=nO p.dG ps i out
 len:out.length<=p.rules.length
 size:iY out<=iY p.rules
 right:∀r∈out,LK r
 one:LI p->out.length<=1
structure tj (p:bN)(k:Nat)(out:List bW):Prop where
 TA:∀ps i,nO p.dG ps i p.rules=nO p.dG ps i (out++p.rules.drop k)
 len:out.length<=k
 size:iY out+iY (p.rules.drop k)<=iY p.rules
 right:∀r∈out,LK r
 one:LI p->k=0
theorem tj.zero (p:bN):tj p 0 []:=⟨λ_ _=>by rw[List.drop_zero];rfl,Nat.le_refl _,by rw[List.drop_zero,iY];omega,λ_ h=>by simp at h,λ_=>rfl⟩
theorem drop_at {α:Type}{l:List α}{k:Nat}{r:α}(h:l[k]?=some r):l.drop k=r::l.drop (k+1):=by
 have ao:=(List.getElem?_eq_some_iff.1 h).1;rw[List.drop_eq_getElem_cons ao]
 have:=List.getElem?_eq_getElem ao;rw[h]at this;cases this;rfl
theorem zL {p:bN}{r s:bW}(hA:LI p)(hr:p.rules[0]?=some r)(h:fi r s):tZ s.before=true/\tZ s.after=true/\nC s.before=false/\nC s.after=false:=by
 obtain⟨r',l,e,⟨b1,b2⟩,a1,a2⟩:=hA;rw[e]at hr;cases hr;have e1:=h.before.one b1 b2;have e2:=h.after.one a1 a2;unfold tZ nC;rw[e1,e2];exact⟨rfl,rfl,rfl,rfl⟩
theorem tj.gone {p:bN}{k:Nat}{out:List bW}{r s:bW}(h:tj p k out)(hr:p.rules[k]?=some r)(hs:fi r s)(hd:nC s.before=true\/nC s.after=true):tj p (k+1) out:=by
 refine⟨λps i=>?_,by have:=h.len;omega,?_,h.right,λhA=>?_⟩
 ·rw[h.TA,drop_at hr,ly,ly,mZ,hs.dead hd];rfl
 ·have:=h.size;rw[drop_at hr,iY]at this;omega
 have:=h.one hA;subst this;have hh:=zL hA hr hs;rcases hd with hd|hd
 ·rw[hd]at hh;exact absurd hh.2.2.1 (by simp)
 rw[hd]at hh;exact absurd hh.2.2.2 (by simp)
theorem tj.more {p:bN}{k:Nat}{out:List bW}{r s:bW}(h:tj p k out)(hr:p.rules[k]?=some r)(hs:fi r s)(hn:¬(tZ s.before=true/\tZ s.after=true)):tj p (k+1) (out++[s]):=by
 refine⟨λps i=>?_,by rw[List.length_append];have:=h.len;simp only[List.length_cons,List.length_nil];omega,?_,λx hx=>?_,λhA=>?_⟩
 ·rw[h.TA,drop_at hr,List.append_assoc,List.singleton_append,ly,ly,mZ,mZ,hs.met,hs.brk]
 ·have:=h.size;have b:=hs.before.len;have a:=hs.after.len;rw[drop_at hr,iY]at this;rw[wZ,iY,iY];omega
 ·rcases List.mem_append.1 hx with hx|hx
  ·exact h.right x hx
  simp at hx;subst hx;exact hs.ok
 have:=h.one hA;subst this;have hh:=zL hA hr hs;exact absurd ⟨hh.1,hh.2.1⟩ hn
theorem tj.last {p:bN}{k:Nat}{out:List bW}{r s:bW}(h:tj p k out)(hr:p.rules[k]?=some r)(hs:fi r s)(h1:tZ s.before=true)(h2:tZ s.after=true):mA p (out++[s]):=by
 have ao:=(List.getElem?_eq_some_iff.1 hr).1;refine⟨λps i=>?_,by rw[List.length_append];have:=h.len;simp only[List.length_cons,List.length_nil];omega,?_,λx hx=>?_,λhA=>?_⟩
 ·have hm:=hs.yes h1 h2 ps i;have OO:=hs.met ps i;rw[hm]at OO;rw[h.TA,drop_at hr,ly,ly,mZ,mZ,hm,<-OO,hs.brk];rfl
 ·have:=h.size;have b:=hs.before.len;have a:=hs.after.len;rw[drop_at hr,iY]at this;rw[wZ,iY,iY];omega
 ·rcases List.mem_append.1 hx with hx|hx
  ·exact h.right x hx
  simp at hx;subst hx;exact hs.ok
 have:=h.one hA;subst this
 have:=h.len;rw[List.length_append];simp only[List.length_cons,List.length_nil];omega
theorem tj.done {p:bN}{k:Nat}{out:List bW}(h:tj p k out)(hk:k=p.rules.length):mA p out:=by
 subst hk;have hd:p.rules.drop p.rules.length=[]:=List.drop_eq_nil_of_le (Nat.le_refl _);refine⟨λps i=>?_,h.len,?_,h.right,λhA=>?_⟩
 ·rw[h.TA,hd,List.append_nil]
 ·have:=h.size;rw[hd,iY]at this;omega
 have:=h.one hA;obtain⟨r,l,e,_⟩:=hA;rw[e]at this;simp at this
theorem mA.right' {p:bN}{out:List bW}(h:mA p out)(hp:az p=true)(dG:Bool):az ⟨out,dG⟩=true:=by
 have h1:=(eD hp).1;have h2:=h.len;unfold az;simp only[Bool.and_eq_true,decide_eq_true_eq,List.all_eq_true];exact⟨by omega,λr hr=>(h.right r hr).1⟩
theorem mA.lens {p:bN}{out:List bW}(h:mA p out)(hp:p.rules.length<1000000000)(dG:Bool):jL ⟨out,dG⟩:=by
 have h2:=h.len;exact⟨by show out.length<_;omega,λr hr=>(h.right r hr).2⟩
end Go.Proofs.YtemjejfpadnljaaGreatDoor
namespace Go.Proofs.YtemjejfpadnljaaGreatDoor
open Go.Vc Go.Proofs Go.RowKit Cae
attribute [local irreducible] cZ ab ai aX runK ar Sl Vc.Own vc aS bu aZ
theorem VY (c:aD)(hc:CR c)(X:Nat->Prop)(v:Value)(w:World)(hv:cM X w v c) :
  ar Tryz.prog 74 [v] w λr w'=>r=.bool (nC c)/\Below w.heap.size w w':=by
 have hm:=hc.many;have sw:=hc.one;have RW:=hc.sets;obtain⟨sv,iv,rfl,tE,td⟩:=hv;obtain⟨a,cp,rfl,RG⟩:=td.shape;have G0:=tE.shape;obtain⟨sa,sc,rfl,CY⟩:=G0;have qE:=dq.values tE;obtain⟨us,aO6,aFW,aFX⟩:=qE;have hg:=ae (l:=c.ins) (i:=0) (by omega);obtain⟨x,hx,mR,_⟩:=hg;refine aE Tryz.func74 rfl (by kernel_rfl) [2] rfl ?_;push_cast -dsimp(maxSteps:=9^7) [Tryz.ntmps74];refine aR ?_;intro w1 aU;have aU:mj w w1 127 [.slice sa c.sets.length sc,.slice a c.ins.length cp]:=aU;have pY:=aU.size;have hg:=(td.below aU.below).get hx;obtain⟨ib,io,rfl,_,hic⟩:=hg;push_cast -dsimp;refine b8 (λw'=>w'=w1.drew) mixed (by kernel_rfl) rfl ?_;have hB:aM w1.drew w.heap.size 127 [.slice sa c.sets.length sc,.slice (some ⟨ib,io,none⟩) c.ins.length cp]:=aU.aL.drew;have t1:w1.drew.cell? ⟨w.heap.size,1,none⟩=some (.slice (some ⟨ib,io,none⟩) c.ins.length cp):=hB.cell rfl;have t0:w1.drew.cell? ⟨w.heap.size,0,none⟩=some (.slice sa c.sets.length sc):=hB.cell rfl;have c0:w1.drew.cell? ⟨ib,io,none⟩=some (.int .i64 x.op):=by have:=hic 0 _ rfl;simpa using this
 have c1:w1.drew.cell? ⟨ib,io+1,none⟩=some (.int .i64 x.a):=by have:=hic 1 _ rfl;simpa using this
 have hdp:nC c=(decide (x.op=1) && decide ((c.sets.getD x.a.toNat []).length=0)):=by unfold nC;rw[hx]
 push_cast -dsimp[t1,t0,c0,c1];have L:∀{ad:Addr} {u:Value},w1.drew.cell? ad=some u->∀bB:World,bB=w1.drew->kI (bB.cell? ad) (λx=>x=u) .mk:=λh bB e=>by rw[e,h];exact rfl
 have pz:Below w.heap.size w w1.drew:=aU.below.drew;refine⟨L t1,by omega,L c0,λh1=>⟨L t0,L t1,by omega,L c1,?_⟩,λh1=>⟨by rw[hdp,decide_eq_false h1];rfl,pz⟩⟩;have hj:=iW hc hx (by omega);have GL:x.a=((x.a.toNat:Nat):Int):=by rw[Int.toNat_of_nonneg hj.2.1]
 have XH:=List.getElem?_eq_getElem (l:=us) (i:=x.a.toNat) (by omega);have hug:=aFW.get XH;obtain⟨ub,uo,rfl,_,huc⟩:=hug;have hes:=List.getElem?_eq_getElem (l:=c.sets) (i:=x.a.toNat) (by omega);have eN:=(aFX _ _ _ XH hes).shape;obtain⟨ua,uc,hev,_⟩:=eN;have csv:w1.drew.cell? ⟨ub,uo+x.a.toNat,none⟩=some (.slice ua (c.sets[x.a.toNat]'(by omega)).length uc):=by
  have:=huc 0 _ rfl;rw[Nat.mul_one,Nat.add_zero,hev]at this;exact(Kept.aN pz (X:=λ_=>False) (λk hk hl=>by omega)).cell this id
 have H2:c.sets.getD x.a.toNat []=c.sets[x.a.toNat]'(by omega):=by rw[List.getD_eq_getElem?_getD,hes];rfl
 have OG:∃n,(c.sets[x.a.toNat]'(by omega)).length=n:=⟨_,rfl⟩;obtain⟨n,hn⟩:=OG;rw[H2,hn,decide_eq_true h1,Bool.true_and]at hdp;rw[hn]at csv;push_cast -dsimp[csv];refine⟨⟨by omega,by omega⟩,L csv,?_⟩;rw[hdp];exact⟨by congr 1;rw[decide_eq_decide];omega,pz⟩
def Ei (Y:Nat->Prop)(p:bN)(r:Value)(w':World):Prop :=
 if az p=true then ∃out v,r=.tuple #[v,.nilIface]/\mA p out/\gd Y w' v ⟨out,p.dG⟩ else r=.tuple #[.agg #[.slice none 0 0,.bool false],.iface 74 (.int .i64 1)]
theorem Si (p:bN)(hl:jL p)(Y:Nat->Prop)(v:Value)(w:World)(hY:∀b,Y b->b<w.heap.size)(hN:iJ w)(hv:gd Y w v p) :
  ar Tryz.prog 47 [v] w λr w'=>Ei Y p r w'/\Below w.heap.size w w':=by
 have CZ:=hv;obtain⟨rv,rfl,hr⟩:=hv;obtain⟨a,cp,rfl,RG⟩:=hr.shape;refine gi Tryz.func47 rfl (by kernel_rfl) [.cell 2 71,.tmp 3] rfl ?_;push_cast -dsimp(maxSteps:=9^7) [Tryz.ntmps47];refine aR ?_;intro w1 aU;have aU:mj w w1 71 [.slice a p.rules.length cp,.bool p.dG]:=aU;have pY:=aU.size;push_cast -dsimp;refine aq (z:=[.slice none 0 0,.bool false]) (by kernel_rfl) ?_;intro w2 bJ;have Bn:=bJ.size;have dh:Below w.heap.size w w2:=aU.below.trans (bJ.below.mono (by omega));have fL:aM w2 w.heap.size 71 [.slice a p.rules.length cp,.bool p.dG]:=aU.aL.below bJ.below (by omega);have yO:aM w2 w1.heap.size 71 [.slice none 0 0,.bool false]:=bJ.aL;have d2:=fL.aB;simp only[List.length_cons,List.length_nil,Nat.zero_add,Nat.reduceAdd]at d2;push_cast -dsimp[d2];refine aA (j1 p hl _ _ w2 (CZ.below dh)) ?_;rintro _ w3 ⟨rfl,gV⟩;have LF:=gV.size;have Ly:=fL.below gV (by omega);have hR3:=yO.below gV (by omega);have cN:Below w.heap.size w w3:=dh.trans (gV.mono (by omega));unfold Ei;cases hPR:az p with
 | false =>
  push_cast -dsimp;refine aH (n:=2) (by kernel_rfl) hR3 rfl (by simp) (by simp[Value.oneCell']) ?_;intro w4 ah;have q4:aB w4 ⟨w1.heap.size,0,none⟩ 0 2=some [.slice none 0 0,.bool false]:=ah.aL.aB;push_cast -dsimp[q4,Bool.false_eq_true,if_false];exact cN.trans (ah.kept.below (by omega) (λ_ h=>by omega))
 | true =>
  have XC:=eD hPR;obtain⟨aOi,dD⟩:=XC;have c3:w3.cell? ⟨w.heap.size,1,none⟩=some (.bool p.dG):=Ly.cell rfl;push_cast -dsimp[c3];refine aq (z:=[.slice none 0 0,.bool false]) (by kernel_rfl) ?_;intro w4 ah;have KZ:=ah.size;push_cast -dsimp;refine aH (n:=2) (by kernel_rfl) ah.aL rfl (by simp) (by simp[Value.oneCell']) ?_;intro w5 cI;have NQ:=cI.size;have k5:Kept (λj=>j=w3.heap.size) w3 w5:=(Kept.new ah).trans cI.kept (λ_ _ h=>h);have GG:=Ly.kept k5 (by omega);have hR5:=hR3.kept k5 (by omega);have hW5:aM w5 w3.heap.size 71 [.slice none 0 0,.bool p.dG]:=cI.aL;have mn:Below w.heap.size w w5:=cN.trans (k5.below (by omega) (λ_ h=>by omega));have c5:w5.cell? ⟨w.heap.size,0,none⟩=some (.slice a p.rules.length cp):=GG.cell rfl;push_cast -dsimp[c5];refine aK [3,6,7,8,9,10,22,23,24,25,26,27,28,29,30,31,32,33,34,35,36,37,38,39,40,41,42,43,44,45,46,47,48,49,50,51,52,53,54,55,56,57,58,59,60,61,62,63,64,65,66,67,68,69,70,71,72,73,74,75,76] (λz wx=>∃(k:Nat) (out:List bW) (us:List PV) (ov:Value),z 22=.int .i64 k/\k<=p.rules.length/\tj p k out/\aM wx w3.heap.size 71 [ov,.bool p.dG]/\Vc.Own w5.heap.size 129 5 gL wx ov us/\us.length=out.length /\
    (∀(i:Nat) (s:bW),out[i]?=some s->∃u,us[i]?=some u/\dy (λb=>(b=w1.heap.size\/b=w3.heap.size\/ov.ownBlock=some b)\/Y b) wx (gL u) s) /\
    aM wx w1.heap.size 71 [.slice none 0 0,.bool false]/\Below w.heap.size w wx/\w5.heap.size<=wx.heap.size) (λz _=>p.rules.length-(intOf (z 22)).toNat) ?_ ?_
  ·exact⟨0,[],[],_,rfl,Nat.zero_le _,tj.zero p,hW5,Vc.Own.nil (enc:=gL) _ _ (λ_=>rfl) _,rfl,λi s h=>by simp at h,hR5,mn,Nat.le_refl _⟩
  intro z wx hI;obtain⟨k,out,us,ov,h22,hk,hP,hWx,eG,uX,XH,vw,eV,ya⟩:=hI;push_cast -dsimp[h22];refine⟨λao=>?_,λeY=>?_⟩
  ·have hg:=ae (l:=p.rules) (i:=k) (by omega);obtain⟨r,hx,mR,_⟩:=hg;have XA:=dD r mR;have Ky:=hl.2 r mR;have hg:=hr.yL hx;obtain⟨b,o,cs,rfl,_,iQ,aFi,hRr⟩:=hg;obtain⟨sv1,iv1,sv2,iv2,rfl,hv1,hv2⟩:=hRr;have aP:∀j u,([.bool r.brk,sv1,iv1,sv2,iv2]:List Value)[j]?=some u->wx.cell? ⟨b,o+k*5+j,none⟩=some u:=λj u hu=>(Kept.aN eV (X:=λ_=>False) (λk hk hl=>by omega)).cell (aFi j u hu) id;have cp5:aB wx ⟨b,o+k*5,none⟩ 0 5=some [.bool r.brk,sv1,iv1,sv2,iv2]:=aj _ 0 (λj u hu=>by simpa using aP j u hu);have aO7:=hv1;have aO8:=hv2;obtain⟨_,_,he,fx,OH⟩:=hv1;cases he;obtain⟨_,_,he,gZ,OI⟩:=hv2;cases he;have eN:=fx.shape;obtain⟨x1,y1,rfl,_⟩:=eN;have eN:=gZ.shape;obtain⟨x2,y2,rfl,_⟩:=eN;have eN:=OH.shape;obtain⟨a1,k1,rfl,_⟩:=eN;have eN:=OI.shape;obtain⟨a2,k2,rfl,_⟩:=eN;push_cast -dsimp[cp5];refine⟨⟨by omega,by omega⟩,?_⟩;refine aq (z:=[.bool false,.slice none 0 0,.slice none 0 0,.slice none 0 0,.slice none 0 0]) (by kernel_rfl) ?_;intro wa fy;have Ty:=fy.size;push_cast -dsimp;refine aH (n:=5) (by kernel_rfl) fy.aL rfl (by simp) (by simp[Value.oneCell']) ?_;intro wb dH;have NR:=dH.size;have kb:Below wx.heap.size wx wb:=fy.below.trans (dH.kept.below (by omega) (λ_ h=>by omega));have GK:aM wb wx.heap.size 129 [.bool r.brk,.slice x1 r.before.sets.length y1,.slice a1 r.before.ins.length k1,.slice x2 r.after.sets.length y2,.slice a2 r.after.ins.length k2]:=dH.aL
   have e1:aB wb ⟨wx.heap.size,1,none⟩ 0 2=some [.slice x1 r.before.sets.length y1,.slice a1 r.before.ins.length k1]:=ju (n:=2) GK 1 rfl rfl;have hgX:∃X,X=(λb=>b=w1.heap.size\/b=w3.heap.size\/ov.ownBlock=some b):=⟨_,rfl⟩;obtain⟨X,hX⟩:=hgX;have huX:∀(i:Nat) (s:bW),out[i]?=some s->∃u,us[i]?=some u/\dy (λb=>X b\/Y b) wx (gL u) s:=by rw[hX];exact XH
   have hXw:∀b,X b->w.heap.size<=b/\b<wx.heap.size:=λb h=>by
    rw[hX]at h;rcases h with h|h|h
    ·omega
    ·omega
    have:=eG.block b h;omega
   have aA1:cM (λb=>X b\/Y b) w _ r.before:=aO7.narrow (X':=λb=>X b\/Y b) (λb hb h=>h.elim (λh=>by have:=hXw b h;omega) id);have aA2:cM (λb=>X b\/Y b) w _ r.after:=aO8.narrow (X':=λb=>X b\/Y b) (λb hb h=>h.elim (λh=>by have:=hXw b h;omega) id);have j7:Below w.heap.size w wb:=eV.trans (kb.mono (by omega));have sJ:=(CR.of XA.1).many;have eE:=(CR.of XA.1).sets;have hm3:=(CR.of XA.2).many;have hm4:=(CR.of XA.2).sets;push_cast -dsimp[e1];refine aA (VI r.before Ky.1.1 (by omega) (by omega) (λb=>X b\/Y b) _ wb (λb h=>h.elim (λh=>by have:=hXw b h;omega) (λh=>by have:=hY b h;omega)) (hN.below j7) (aA1.below j7)) ?_;rintro r1 wc ⟨vZ,vy⟩;have Za:=vy.size;unfold N9 at vZ;rw[if_pos XA.1]at vZ;obtain⟨d1,dv1,rfl,hL1,hd1⟩:=vZ;have aNx:=hd1;obtain⟨_,_,rfl,aNF,aNC⟩:=hd1;have eN:=aNF.shape;obtain⟨Tu,Tx,rfl,_⟩:=eN;have eN:=aNC.shape;obtain⟨ia1,Ra,rfl,_⟩:=eN;push_cast -dsimp;refine aq (z:=[.slice none 0 0,.slice none 0 0]) (by kernel_rfl) ?_;intro wd iU;have Zb:=iU.size;push_cast -dsimp;refine aH (n:=2) (by kernel_rfl) iU.aL rfl (by simp) (by simp[Value.oneCell']) ?_;intro we lG;have LG:=lG.size;have ke:Below wc.heap.size wc we:=iU.below.trans (lG.kept.below (by omega) (λ_ h=>by omega));have We:Below wx.heap.size wx we:=kb.trans ((vy.mono (by omega)).trans (ke.mono (by omega)));have so:Below w.heap.size w we:=eV.trans (We.mono (by omega));have hXe:aM we wx.heap.size 129 _:=(GK.below vy (by omega)).below ke (by omega)
   have hDe:aM we wc.heap.size 127 [.slice Tu d1.sets.length Tx,.slice ia1 d1.ins.length Ra]:=lG.aL;have e2:aB we ⟨wx.heap.size,3,none⟩ 0 2=some [.slice x2 r.after.sets.length y2,.slice a2 r.after.ins.length k2]:=ju (n:=2) hXe 3 rfl rfl;push_cast -dsimp[e2];refine aA (VI r.after Ky.2.1 (by omega) (by omega) (λb=>X b\/Y b) _ we (λb h=>h.elim (λh=>by have:=hXw b h;omega) (λh=>by have:=hY b h;omega)) (hN.below so) (aA2.below so)) ?_;rintro r2 wf ⟨uV,Wa⟩;have szf:=Wa.size;unfold N9 at uV;rw[if_pos XA.2]at uV;obtain⟨d2,dv2,rfl,hL2,hd2⟩:=uV;have aNz:=hd2;obtain⟨_,_,rfl,aNG,aND⟩:=hd2;have eN:=aNG.shape;obtain⟨HF,HH,rfl,_⟩:=eN;have eN:=aND.shape;obtain⟨ia2,Rf,rfl,_⟩:=eN;push_cast -dsimp;refine aq (z:=[.slice none 0 0,.slice none 0 0]) (by kernel_rfl) ?_;intro wg lH;have szg:=lH.size;push_cast -dsimp;refine aH (n:=2) (by kernel_rfl) lH.aL rfl (by simp) (by simp[Value.oneCell']) ?_;intro wh LB;have szh:=LB.size;have kh:Below wf.heap.size wf wh:=lH.below.trans (LB.kept.below (by omega) (λ_ h=>by omega));have RB:Below wx.heap.size wx wh:=We.trans ((Wa.mono (by omega)).trans (kh.mono (by omega)));have hXh:aM wh wx.heap.size 129 _:=(hXe.below Wa (by omega)).below kh (by omega);have hDh:aM wh wc.heap.size 127 _:=(hDe.below Wa (by omega)).below kh (by omega);have hFh:aM wh wf.heap.size 127 [.slice HF d2.sets.length HH,.slice ia2 d2.ins.length Rf]:=LB.aL;have aJw:cM (λb=>X b\/Y b) wh _ d1:=((aNx.below ke).below Wa).below kh;have aJx:cM (λb=>X b\/Y b) wh _ d2:=aNz.below kh
   have q1:aB wh ⟨wc.heap.size,0,none⟩ 0 2=some [.slice Tu d1.sets.length Tx,.slice ia1 d1.ins.length Ra]:=hDh.aB;push_cast -dsimp[q1];have hLP:fi r ⟨r.brk,d1,d2⟩:=⟨rfl,CR.of XA.1,CR.of XA.2,hL1,hL2⟩;refine aA (VY d1 hL1.cr _ _ wh aJw) ?_;rintro _ wi ⟨rfl,HZ⟩;have szi:=HZ.size;have aJr:=RB.trans (HZ.mono (by omega));cases aNA:nC d1 with
   | true =>
    push_cast -dsimp;have wD:Below wx.heap.size wx wi:=aJr;have aPz:=wD.size;exact⟨⟨by omega,by omega⟩,⟨k+1,out,us,ov,rfl,by omega,hP.gone hx hLP (.inl aNA),hWx.below wD (by omega),eG.aJ (Kept.aN wD (X:=λ_=>False) (λk hk hl=>by omega)) (λ_ _ h=>h),uX,λi s h=>by
     obtain⟨u,h1,h2⟩:=XH i s h;exact⟨u,h1,h2.below wD⟩,vw.below wD (by omega),eV.trans (wD.mono (by omega)),by omega⟩,by rw[h22];simp only[intOf];omega⟩
   | false =>
    have ZT:=hFh.below HZ (by omega);have hDi:=hDh.below HZ (by omega);have hXi:=hXh.below HZ (by omega);have q2:aB wi ⟨wf.heap.size,0,none⟩ 0 2=some [.slice HF d2.sets.length HH,.slice ia2 d2.ins.length Rf]:=ZT.aB;push_cast -dsimp[q2];refine aA (VY d2 hL2.cr _ _ wi (aJx.below HZ)) ?_;rintro _ wj ⟨rfl,Qz⟩;have szj:=Qz.size;have RC:=aJr.trans (Qz.mono (by omega));cases aNB:nC d2 with
    | true =>
     push_cast -dsimp;have wD:Below wx.heap.size wx wj:=RC;have aPz:=wD.size;exact⟨⟨by omega,by omega⟩,⟨k+1,out,us,ov,rfl,by omega,hP.gone hx hLP (.inr aNB),hWx.below wD (by omega),eG.aJ (Kept.aN wD (X:=λ_=>False) (λk hk hl=>by omega)) (λ_ _ h=>h),uX,λi s h=>by
      obtain⟨u,h1,h2⟩:=XH i s h;exact⟨u,h1,h2.below wD⟩,vw.below wD (by omega),eV.trans (wD.mono (by omega)),by omega⟩,by rw[h22];simp only[intOf];omega⟩
    | false =>
     have hFj:=ZT.below Qz (by omega);have hDj:=hDi.below Qz (by omega);have hXj:=hXi.below Qz (by omega);have hWj:=hWx.below RC (by omega);have hRj:=vw.below RC (by omega);have aJy:=(aJw.below HZ).below Qz;have aJA:=(aJx.below HZ).below Qz;have z1:wj.cell? ⟨w3.heap.size,0,none⟩=some ov:=hWj.cell rfl;have z2:wj.cell? ⟨wx.heap.size,0,none⟩=some (.bool r.brk):=hXj.cell rfl;have z3:aB wj ⟨wc.heap.size,0,none⟩ 0 2=some [.slice Tu d1.sets.length Tx,.slice ia1 d1.ins.length Ra]:=hDj.aB;have z4:aB wj ⟨wf.heap.size,0,none⟩ 0 2=some [.slice HF d2.sets.length HH,.slice ia2 d2.ins.length Rf]:=hFj.aB;have hos:=eG.slice;obtain⟨oa,oc,OP⟩:=hos;rw[OP]at z1;push_cast -dsimp[z1,z2,z3,z4];refine cH vo rfl rfl (by omega) ?_;intro wk hwk;have szk:=hwk.size;have qZ:=eG.aJ (Kept.aN RC (X:=λ_=>False) (λk hk hl=>by omega)) (λ_ _ h=>h);rw[OP]at qZ;push_cast -dsimp;refine aW (base:=w5.heap.size) [⟨r.brk,⟨Tu,d1.sets.length,Tx⟩,⟨ia1,d1.ins.length,Ra⟩,⟨HF,d2.sets.length,HH⟩,⟨ia2,d2.ins.length,Rf⟩⟩] (enc:=gL) vo (qZ.new hwk) (by rfl) (λj u hu=>by simpa[gL,SV.v] using hwk.cell hu) vp (by have:=hP.len;simp only[List.length_cons,List.length_nil];omega) (by omega) ?_;intro vl wl To OG hnl;have aFJ:=To.slice;obtain⟨la,lc,rfl⟩:=aFJ;have hO7:∀g,(Value.slice oa us.length oc).ownBlock=some g->w5.heap.size<=g/\g<wx.heap.size:=λg hg=>eG.block g (by rw[OP];exact hg);have hXo:∀g,(Value.slice oa us.length oc).ownBlock=some g->X g:=λg hg=>by rw[hX,OP];exact .inr (.inr hg)
     have kO:Kept (λj=>(Value.slice oa us.length oc).ownBlock=some j) wj wl:=(Kept.new hwk).trans (Kept.grown OG (λ_ h=>h)) (λ_ _ h=>h);have szl:=kO.size;have hWl:=hWj.kept kO (λh=>by have:=hO7 _ h;omega);have hRl:=hRj.kept kO (λh=>by have:=hO7 _ h;omega);have hDl:=hDj.kept kO (λh=>by have:=hO7 _ h;omega);have hFl:=hFj.kept kO (λh=>by have:=hO7 _ h;omega);push_cast -dsimp;refine aC hWl (by simp) rfl ?_;intro wm hwm;have szm:wm.heap.size=wl.heap.size:=hwm.size;have hRm:=hRl.kept hwm.kept (by omega);have hDm:=hDl.kept hwm.kept (by omega);have hFm:=hFl.kept hwm.kept (by omega);have kX:Kept X wj wm:=(kO.weaken (Y:=X) (λg _ h=>hXo g h)).trans hwm.kept (λg _ h=>by rw[hX];exact .inr (.inl h));have aQ3:=hL1.cr.one;have aQ4:=hL2.cr.one;have hg:=ae (l:=d1.ins) (i:=0) (by omega);obtain⟨y1,hy1,_,_⟩:=hg;have hg:=ae (l:=d2.ins) (i:=0) (by omega);obtain⟨y2,hy2,_,_⟩:=hg;have aJz:=aJy;have aJB:=aJA;obtain⟨_,_,he,_,aN8⟩:=aJy;cases he;obtain⟨_,_,he,_,aN9⟩:=aJA;cases he;have hg:=aN8.get hy1;obtain⟨b1,o1,rfl,aOr,GS⟩:=hg;have hg:=aN9.get hy2;obtain⟨b2,o2,rfl,aOs,uP⟩:=hg;have t1:wm.cell? ⟨wc.heap.size,1,none⟩=some (.slice (some ⟨b1,o1,none⟩) d1.ins.length Ra):=hDm.cell rfl;have t2:wm.cell? ⟨wf.heap.size,1,none⟩=some (.slice (some ⟨b2,o2,none⟩) d2.ins.length Rf):=hFm.cell rfl;have t3:wm.cell? ⟨b1,o1,none⟩=some (.int .i64 y1.op):=kX.cell (by have:=GS 0 _ rfl;simpa using this) (λh=>aOr (.inl h))
     have t4:wm.cell? ⟨b2,o2,none⟩=some (.int .i64 y2.op):=kX.cell (by have:=uP 0 _ rfl;simpa using this) (λh=>aOs (.inl h));have aFZ:tZ d1=decide (y1.op=5):=by unfold tZ;rw[hy1]
     have aF0:tZ d2=decide (y2.op=5):=by unfold tZ;rw[hy2]
     have conv:∀cs s,dy (λb=>X b\/Y b) wj cs s->dy (λb=>(b=w1.heap.size\/b=w3.heap.size\/(Value.slice la (us++[(⟨r.brk,⟨Tu,d1.sets.length,Tx⟩,⟨some ⟨b1,o1,none⟩,d1.ins.length,Ra⟩,⟨HF,d2.sets.length,HH⟩,⟨some ⟨b2,o2,none⟩,d2.ins.length,Rf⟩⟩:PV)]).length lc).ownBlock=some b)\/Y b) wm cs s:=λcs s h=>by
      refine(h.narrow (X':=λb=>(X b\/(Value.slice la (us++[(⟨r.brk,⟨Tu,d1.sets.length,Tx⟩,⟨some ⟨b1,o1,none⟩,d1.ins.length,Ra⟩,⟨HF,d2.sets.length,HH⟩,⟨some ⟨b2,o2,none⟩,d2.ins.length,Rf⟩⟩:PV)]).length lc).ownBlock=some b)\/Y b) (λb hb hh=>?_)).mono (λb mO ao=>kX.block b ao (λhh=>mO (.inl (.inl hh)))) (λb hh=>?_)
      ·rcases hh with (hh|hh)|hh
       ·exact .inl hh
       ·rcases hnl b hh with h1|h1
        ·exact .inl (hXo b h1)
        omega
       exact .inr hh
      rcases hh with (hh|hh|hh)|hh
      ·left;left;rw[hX];exact .inl hh
      ·left;left;rw[hX];exact .inr (.inl hh)
      ·exact .inl (.inr hh)
      exact .inr hh
     have hum:=sX (Pr:=λ_ u s=>dy (λb=>(b=w1.heap.size\/b=w3.heap.size\/(Value.slice la (us++[(⟨r.brk,⟨Tu,d1.sets.length,Tx⟩,⟨some ⟨b1,o1,none⟩,d1.ins.length,Ra⟩,⟨HF,d2.sets.length,HH⟩,⟨some ⟨b2,o2,none⟩,d2.ins.length,Rf⟩⟩:PV)]).length lc).ownBlock=some b)\/Y b) wm (gL u) s) uX (λi s h=>by
      obtain⟨u,h1,h2⟩:=huX i s h;exact⟨u,h1,conv _ _ (h2.below RC)⟩) (u:=⟨r.brk,⟨Tu,d1.sets.length,Tx⟩,⟨some ⟨b1,o1,none⟩,d1.ins.length,Ra⟩,⟨HF,d2.sets.length,HH⟩,⟨some ⟨b2,o2,none⟩,d2.ins.length,Rf⟩⟩) (x:=⟨r.brk,d1,d2⟩) (conv _ _ ⟨_,_,_,_,rfl,aJz,aJB⟩)
     have hom:=To.aJ hwm.kept (λg hg h=>by have:=(To.block g hg).1;omega);have XF:(us++[(⟨r.brk,⟨Tu,d1.sets.length,Tx⟩,⟨some ⟨b1,o1,none⟩,d1.ins.length,Ra⟩,⟨HF,d2.sets.length,HH⟩,⟨some ⟨b2,o2,none⟩,d2.ins.length,Rf⟩⟩:PV)]).length=(out++[(⟨r.brk,d1,d2⟩:bW)]).length:=by simp[uX]
     have hWm:=hwm.aL;have Wd:Below w.heap.size w wm:=(eV.trans (RC.mono (by omega))).trans (kX.below (by omega) (λb h=>(hXw b h).1));push_cast -dsimp[t1,t2,t3,t4];refine⟨by omega,λg1=>⟨by omega,λg2=>?_,λg2=>?_⟩,λg1=>?_⟩
     ·have hPL:=hP.last hx hLP (by rw[aFZ];exact decide_eq_true g1) (by rw[aF0];exact decide_eq_true g2);have qf:=hWm.aB;simp only[List.length_cons,List.length_nil,Nat.zero_add,Nat.reduceAdd,List.set_cons_zero,List.set_cons_succ]at qf;push_cast -dsimp[qf];refine aH (n:=2) (by kernel_rfl) hRm rfl (by simp) (by simp[Value.oneCell']) ?_;intro wq MW;have szq:=MW.size;have qc:aB wq ⟨w1.heap.size,0,none⟩ 0 2=some [.slice la (us++[(⟨r.brk,⟨Tu,d1.sets.length,Tx⟩,⟨some ⟨b1,o1,none⟩,d1.ins.length,Ra⟩,⟨HF,d2.sets.length,HH⟩,⟨some ⟨b2,o2,none⟩,d2.ins.length,Rf⟩⟩:PV)]).length lc,.bool p.dG]:=MW.aL.aB;push_cast -dsimp[qc,if_true];have pD:=vB (R:=dy Y wq) (hom.aJ MW.kept (λg hg h=>by have:=(hom.block g hg).1;omega)) XF (λi s h=>by
       obtain⟨u,h1,h2⟩:=hum i s h;exact⟨u,h1,h2.mono (λb mO ao=>MW.kept.block b ao (λhh=>mO (.inl (.inl hh)))) (λ_ h=>.inr h)⟩)
      exact⟨⟨_,_,rfl,hPL,⟨_,rfl,oe.mono (X':=Y) (X:=Y) (pD.weaken (λb h=>by have:=hY b h;omega)) (λ_ _ _=>rfl) (λ_ h=>h)⟩⟩,Wd.trans (MW.kept.below (by omega) (λ_ h=>by omega))⟩
     ·exact⟨⟨by omega,by omega⟩,⟨k+1,_,_,_,rfl,by omega,hP.more hx hLP (by rw[aFZ,aF0];simp[g2]),hWm,hom,XF,hum,hRm,Wd,by omega⟩,by rw[h22];simp only[intOf];omega⟩
     exact⟨⟨by omega,by omega⟩,⟨k+1,_,_,_,rfl,by omega,hP.more hx hLP (by rw[aFZ,aF0];simp[g1]),hWm,hom,XF,hum,hRm,Wd,by omega⟩,by rw[h22];simp only[intOf];omega⟩
  have CU:k=p.rules.length:=by omega
  have hPL:=hP.done CU;have hos:=eG.slice;obtain⟨oa,oc,rfl⟩:=hos;have hWm:=hWx;have hRm:=vw;have hom:=eG;have XF:=uX;have hum:=XH;have Wd:=eV;have qf:=hWm.aB;simp only[List.length_cons,List.length_nil,Nat.zero_add,Nat.reduceAdd,List.set_cons_zero,List.set_cons_succ]at qf;push_cast -dsimp[qf];refine aH (n:=2) (by kernel_rfl) hRm rfl (by simp) (by simp[Value.oneCell']) ?_;intro wq MW;have szq:=MW.size;have qc:aB wq ⟨w1.heap.size,0,none⟩ 0 2=some [.slice oa us.length oc,.bool p.dG]:=MW.aL.aB;push_cast -dsimp[qc,if_true];have pD:=vB (R:=dy Y wq) (hom.aJ MW.kept (λg hg h=>by have:=(hom.block g hg).1;omega)) XF (λi s h=>by
   obtain⟨u,h1,h2⟩:=hum i s h;exact⟨u,h1,h2.mono (λb mO ao=>MW.kept.block b ao (λhh=>mO (.inl (.inl hh)))) (λ_ h=>.inr h)⟩)
  exact⟨⟨_,_,rfl,hPL,⟨_,rfl,oe.mono (X':=Y) (X:=Y) (pD.weaken (λb h=>by have:=hY b h;omega)) (λ_ _ _=>rfl) (λ_ h=>h)⟩⟩,Wd.trans (MW.kept.below (by omega) (λ_ h=>by omega))⟩
end Go.Proofs.YtemjejfpadnljaaGreatDoor
namespace Cae
theorem u7:∀(s cs:List UInt8) (x:UInt8),x∈s->cs.contains x=true->0<=Go.Lib.indexAny s cs:=by
 intro s cs x hx hc;induction s with
 | nil=>cases hx
 | cons b l ih =>
  unfold Go.Lib.indexAny;split
  ·decide
  rename_i hb;have hl:x∈l:=by
   rcases List.mem_cons.1 hx with e|h
   ·subst e;exact absurd hc hb
   exact h
  have:=ih hl;split
  ·rename_i he
   have:=beq_iff_eq.1 he;omega
  omega
end Cae
namespace Cae
def EK (bV:List Int)(back:Bool)(i:Nat):List Int:=if back then (bV.take i).reverse else bV.drop i
def sQ (c:aD)(S:Nat->Nat->Prop)(e:Nat):Nat->Nat->Prop
 | 0,m=>m=e
 | t+1,m=>c.ins[m]?=some ⟨2,((m+1:Nat):Int),(e:Int)⟩/\∃m',S (m+1) m'/\sQ c S e t m'
section
variable (has:ax->Int->Prop) (c:aD) (back:Bool)
mutual
def iD:aG->Nat->Nat->Prop
 | .one k,a,b=>b=a+1/\∃(i:Nat) (s:List Rg),c.ins[a]?=some ⟨1,(i:Int),0⟩/\c.sets[i]?=some s/\∀p,fA s p=true↔has k p
 | .any,a,b=>b=a+1/\∃(i:Nat) (s:List Rg),c.ins[a]?=some ⟨1,(i:Int),0⟩/\c.sets[i]?=some s/\∀p,0<=p->p<=1114111->fA s p=true
 | .gh,a,b=>b=a+1/\c.ins[a]?=some ⟨4,0,0⟩
 | .cat l,a,b=>if back then nU l a b else jz l a b
 | .alt l,a,b=>lM l a b
 | .many x lo hi,a,b=>∃m,iterM (λa b=>iD x a b) lo.toNat a m/\if hi<0 then c.ins[m]?=some ⟨2,((m+1:Nat):Int),(b:Int)⟩/\∃e,iD x (m+1) e/\c.ins[e]?=some ⟨3,(m:Int),0⟩/\b=e+1 else sQ c (λa b=>iD x a b) b (hi-lo).toNat m
def jz:List aG->Nat->Nat->Prop
 | [],a,b=>a=b
 | x::l,a,b=>∃m,iD x a m/\jz l m b
def nU:List aG->Nat->Nat->Prop
 | [],a,b=>a=b
 | x::l,a,b=>∃m,nU l a m/\iD x m b
def lM:List aG->Nat->Nat->Prop
 | [],a,b=>False
 | x::l,a,b=>(l=[]/\iD x a b)\/(l≠[]/\∃m,c.ins[a]?=some ⟨2,((a+1:Nat):Int),((m+1:Nat):Int)⟩/\iD x (a+1) m/\c.ins[m]?=some ⟨3,(b:Int),0⟩/\lM l (m+1) b)
end
end
section
variable {has:ax->Int->Prop} {c:aD} {back:Bool} {bV:List Int}
theorem vF {i:Nat}(hi:i<=bV.length):(nR bV back i=none/\EK bV back i=[])\/∃j p,nR bV back i=some (j,p)/\EK bV back i=p::EK bV back j:=by
 unfold nR EK;cases back with
 | true =>
  simp only[if_true];by_cases h0:i=0
  ·subst h0;exact .inl ⟨by simp,by simp⟩
  rw[if_neg h0];obtain⟨k,rfl⟩:∃k,i=k+1:=⟨i-1,by omega⟩;have hk:k<bV.length:=by omega
  refine .inr ⟨k,bV[k],?_,?_⟩
  ·rw[show k+1-1=k by omega,List.getElem?_eq_getElem hk];rfl
  rw[List.take_succ_eq_append_getElem hk,List.reverse_append];rfl
 | false =>
  simp only[Bool.false_eq_true,if_false];by_cases h0:i<bV.length
  ·exact .inr ⟨i+1,bV[i],by rw[List.getElem?_eq_getElem h0];rfl,List.drop_eq_getElem_cons h0⟩
  exact .inl ⟨by rw[List.getElem?_eq_none (by omega)];rfl,List.drop_eq_nil_of_le (by omega)⟩
theorem rd_some {i j:Nat}{p:Int}(hi:i<=bV.length)(h:nR bV back i=some (j,p)):EK bV back i=p::EK bV back j:=by
 rcases vF (back:=back) hi with ⟨e1,_⟩|⟨k,q,e1,e2⟩
 ·rw[h]at e1;cases e1
 rw[h]at e1;cases e1;exact e2
theorem Yw {i j:Nat}{p:Int}(h:nR bV back i=some (j,p)):p∈bV:=by
 unfold nR at h;split at h
 ·split at h
  ·cases h
  cases hp:bV[i-1]? with
  | none=>rw[hp]at h;cases h
  | some q=>rw[hp]at h;cases h;exact List.mem_of_getElem? hp
 cases hp:bV[i]? with
 | none=>rw[hp]at h;cases h
 | some q=>rw[hp]at h;cases h;exact List.mem_of_getElem? hp
theorem oJ {R:Nat->Nat->Prop}:∀{m n i j:Nat},iterM R (m+n) i j↔∃k,iterM R m i k/\iterM R n k j
 | 0,n,i,j=>by rw[Nat.zero_add];exact⟨λh=>⟨i,rfl,h⟩,λ⟨k,h1,h2⟩=>by cases h1;exact h2⟩
 | m+1,n,i,j=>by
  rw[show m+1+n=(m+n)+1 by omega]
  constructor
  ·rintro⟨a,h1,h2⟩;obtain⟨k,h3,h4⟩:=oJ.1 h2;exact⟨k,⟨a,h1,h3⟩,h4⟩
  rintro⟨k,⟨a,h1,h3⟩,h4⟩;exact⟨a,h1,oJ.2 ⟨k,h3,h4⟩⟩
def Fw (c:aD)(bV:List Int)(back:Bool)(S R:Nat->Nat->Prop):Prop:=∀a b i h,S a b->i<=bV.length->dK c h a (EK bV back i)->∃j h',j<=bV.length/\h'<=h/\R i j/\dK c h' b (EK bV back j)
def Bw (c:aD)(bV:List Int)(back:Bool)(S R:Nat->Nat->Prop):Prop:=∀a b i j,S a b->i<=bV.length->R i j->Acc c b (EK bV back j)->Acc c a (EK bV back i)
theorem D4 {h a:Nat}{ps:List Int}{i:Int}(hx:c.ins[a]?=some ⟨1,i,0⟩)(hh:dK c h a ps):∃h' p r,h'+1=h/\ps=p::r/\fA (c.sets.getD i.toNat []) p=true/\dK c h' (a+1) r:=by
 cases h with
 | zero=>exact hh.elim
 | succ h =>
  rw[dK,hx]at hh;dsimp only at hh;rw[if_neg (by decide),if_neg (by decide),if_neg (by decide),if_neg (by decide)]at hh;cases ps with
  | nil=>exact hh.elim
  | cons p r=>exact⟨h,p,r,rfl,rfl,hh.1,hh.2⟩
theorem sW {h a:Nat}{ps:List Int}{i j:Int}(hx:c.ins[a]?=some ⟨2,i,j⟩)(hh:dK c h a ps):∃h',h'+1=h/\(dK c h' i.toNat ps\/dK c h' j.toNat ps):=by
 cases h with
 | zero=>exact hh.elim
 | succ h =>
  rw[dK,hx]at hh;dsimp only at hh;rw[if_neg (by decide),if_pos rfl]at hh;exact⟨h,rfl,hh⟩
theorem D3 {h a:Nat}{ps:List Int}{i:Int}(hx:c.ins[a]?=some ⟨3,i,0⟩)(hh:dK c h a ps):∃h',h'+1=h/\dK c h' i.toNat ps:=by
 cases h with
 | zero=>exact hh.elim
 | succ h =>
  rw[dK,hx]at hh;dsimp only at hh;rw[if_neg (by decide),if_neg (by decide),if_pos rfl]at hh;exact⟨h,rfl,hh⟩
theorem UG {h a:Nat}{ps:List Int}(hx:c.ins[a]?=some ⟨4,0,0⟩)(hh:dK c h a ps):∃h',h'+1=h/\ps=[]/\dK c h' (a+1) ps:=by
 cases h with
 | zero=>exact hh.elim
 | succ h =>
  rw[dK,hx]at hh;dsimp only at hh;rw[if_neg (by decide),if_neg (by decide),if_neg (by decide),if_pos rfl]at hh;exact⟨h,rfl,hh.1,hh.2⟩
theorem OZ {S R:Nat->Nat->Prop}(hF:Fw c bV back S R):∀n,Fw c bV back (iterM S n) (iterM R n)
 | 0,a,b,i,h,hs,hi,hh=>by cases hs;exact⟨i,h,hi,Nat.le_refl _,rfl,hh⟩
 | n+1,a,b,i,h,⟨m,h1,h2⟩,hi,hh=>by
  obtain⟨j,h',hj,hle,hr,Dh⟩:=hF a m i h h1 hi hh;obtain⟨k,Ql,hk,RO,jK,uR⟩:=OZ hF n m b j h' h2 hj Dh;exact⟨k,Ql,hk,by omega,⟨j,hr,jK⟩,uR⟩
theorem OY {S R:Nat->Nat->Prop}(hle:∀i j,i<=bV.length->R i j->j<=bV.length)(hB:Bw c bV back S R):∀n,Bw c bV back (iterM S n) (iterM R n)
 | 0,a,b,i,j,hs,hi,hr,hh=>by cases hs;cases hr;exact hh
 | n+1,a,b,i,j,⟨m,h1,h2⟩,hi,⟨k,r1,r2⟩,hh=>hB a m i k h1 hi r1 (OY hle hB n m b k j h2 (hle _ _ hi r1) r2 hh)
theorem aDE {S R:Nat->Nat->Prop}{e:Nat}(hF:Fw c bV back S R):∀t m i h,sQ c S e t m->i<=bV.length->dK c h m (EK bV back i)->∃n j h',n<=t/\j<=bV.length/\h'<=h/\iterM R n i j/\dK c h' e (EK bV back j)
 | 0,m,i,h,hs,hi,hh=>by cases hs;exact⟨0,i,h,Nat.le_refl _,hi,Nat.le_refl _,rfl,hh⟩
 | t+1,m,i,h,hs,hi,hh=>by
  obtain⟨hx,m',h1,h2⟩:=hs;obtain⟨h0,rfl,hq⟩:=sW hx hh;rw[Int.toNat_natCast,Int.toNat_natCast]at hq;rcases hq with hh|hh
  ·obtain⟨j,h',hj,hle,hr,Dh⟩:=hF (m+1) m' i h0 h1 hi hh;obtain⟨n,k,Ql,hn,hk,RO,jK,uR⟩:=aDE hF t m' j h' h2 hj Dh;exact⟨n+1,k,Ql,by omega,hk,by omega,⟨j,hr,jK⟩,uR⟩
  exact⟨0,i,h0,by omega,hi,by omega,rfl,hh⟩
theorem aDD {S R:Nat->Nat->Prop}{e:Nat}(hle:∀i j,i<=bV.length->R i j->j<=bV.length)(hB:Bw c bV back S R):∀t m i j n,sQ c S e t m->i<=bV.length->n<=t->iterM R n i j->Acc c e (EK bV back j)->Acc c m (EK bV back i)
 | 0,m,i,j,n,hs,hi,hn,hr,hh=>by
  obtain rfl:n=0:=by omega
  cases hs;cases hr;exact hh
 | t+1,m,i,j,n,hs,hi,hn,hr,hh=>by
  obtain⟨hx,m',h1,h2⟩:=hs;refine(fE hx rfl).2 ?_;simp only[Int.toNat_natCast];cases n with
  | zero=>cases hr;exact .inr hh
  | succ n =>
   obtain⟨k,r1,r2⟩:=hr;exact .inl (hB (m+1) m' i k h1 hi r1 (aDD hle hB t m' k j n h2 (hle _ _ hi r1) (by omega) r2 hh))
theorem aCy {S R:Nat->Nat->Prop}{m e b:Nat}(hF:Fw c bV back S R)(hx:c.ins[m]?=some ⟨2,((m+1:Nat):Int),(b:Int)⟩)(hS:S (m+1) e)(hj:c.ins[e]?=some ⟨3,(m:Int),0⟩):∀h i,i<=bV.length->dK c h m (EK bV back i)->∃n j h',j<=bV.length/\h'<=h/\iterM R n i j/\dK c h' b (EK bV back j):=by
 intro h;induction h using Nat.strongRecOn with
 | ind h ih =>
  intro i hi hh;obtain⟨h0,rfl,hq⟩:=sW hx hh;rw[Int.toNat_natCast,Int.toNat_natCast]at hq;rcases hq with hh|hh
  ·obtain⟨j,h1,hj',hle,hr,Dh⟩:=hF (m+1) e i h0 hS hi hh;obtain⟨h2,rfl,uR⟩:=D3 hj Dh;rw[Int.toNat_natCast]at uR;obtain⟨n,k,h3,hk,RO,jK,hh3⟩:=ih h2 (by omega) j hj' uR;exact⟨n+1,k,h3,hk,by omega,⟨j,hr,jK⟩,hh3⟩
  exact⟨0,i,h0,hi,by omega,rfl,hh⟩
theorem PM {S R:Nat->Nat->Prop}{m e b:Nat}(hle:∀i j,i<=bV.length->R i j->j<=bV.length)(hB:Bw c bV back S R)(hx:c.ins[m]?=some ⟨2,((m+1:Nat):Int),(b:Int)⟩)(hS:S (m+1) e)(hj:c.ins[e]?=some ⟨3,(m:Int),0⟩):∀n i j,i<=bV.length->iterM R n i j->Acc c b (EK bV back j)->Acc c m (EK bV back i)
 | 0,i,j,hi,hr,hh=>by
  cases hr;exact(fE hx rfl).2 (.inr (by simpa only[Int.toNat_natCast] using hh))
 | n+1,i,j,hi,⟨k,r1,r2⟩,hh=>by
  refine(fE hx rfl).2 (.inl ?_);simp only[Int.toNat_natCast];refine hB (m+1) e i k hS hi r1 ((gI hj rfl).2 ?_);simp only[Int.toNat_natCast];exact PM hle hB hx hS hj n k j (hle _ _ hi r1) r2 hh
theorem AK {i:Nat}{s:List Rg}(h:c.sets[i]?=some s):c.sets.getD ((i:Int)).toNat []=s:=by
 rw[Int.toNat_natCast,List.getD_eq_getElem?_getD,h];rfl
mutual
theorem rB:∀(back:Bool) (x:aG),bK x->Fw c bV back (iD has c back x) (pk has bV back x)
 | back,.one k,_,a,b,i,h,hs,hi,hh=>by
  simp only[iD]at hs;obtain⟨rfl,q,s,hx,hq,hp⟩:=hs;obtain⟨h',p,r,rfl,e,h1,h2⟩:=D4 hx hh;rw[AK hq]at h1;rcases vF (back:=back) hi with ⟨_,e2⟩|⟨j,p',e1,e2⟩
  ·rw[e2]at e;cases e
  rw[e2]at e;cases e;exact⟨j,h',vP e1 hi,by omega,by simp only[pk];exact⟨_,e1,(hp _).1 h1⟩,h2⟩
 | back,.any,_,a,b,i,h,hs,hi,hh=>by
  simp only[iD]at hs;obtain⟨rfl,q,s,hx,hq,hp⟩:=hs;obtain⟨h',p,r,rfl,e,h1,h2⟩:=D4 hx hh;rcases vF (back:=back) hi with ⟨_,e2⟩|⟨j,p',e1,e2⟩
  ·rw[e2]at e;cases e
  rw[e2]at e;cases e;exact⟨j,h',vP e1 hi,by omega,by simp only[pk];exact⟨_,e1⟩,h2⟩
 | back,.gh,_,a,b,i,h,hs,hi,hh=>by
  simp only[iD]at hs;obtain⟨rfl,hx⟩:=hs;obtain⟨h',rfl,e,h2⟩:=UG hx hh;rcases vF (back:=back) hi with ⟨e1,e2⟩|⟨j,p',e1,e2⟩
  ·exact⟨i,h',hi,by omega,by simp only[pk];exact⟨trivial,e1⟩,h2⟩
  rw[e2]at e;cases e
 | back,.cat l,bO,a,b,i,h,hs,hi,hh=>by
  simp only[bK]at bO;simp only[iD]at hs;simp only[pk];cases back with
  | true=>exact PG l bO a b i h hs hi hh
  | false=>exact PI l bO a b i h hs hi hh
 | back,.alt l,bO,a,b,i,h,hs,hi,hh=>by
  simp only[bK]at bO;simp only[iD]at hs;simp only[pk];exact PD back l bO a b i h hs hi hh
 | back,.many x lo yT,bO,a,b,i,h,hs,hi,hh=>by
  simp only[bK]at bO;simp only[iD]at hs;simp only[Jw];obtain⟨m,h1,h2⟩:=hs;obtain⟨j,h',hj,hle,hr,Dh⟩:=OZ (rB back x bO.1) lo.toNat a m i h h1 hi hh;split at h2
  ·rename_i JI;obtain⟨hx,e,hS,MO,rfl⟩:=h2;obtain⟨n,k,Ql,hk,RO,jK,uR⟩:=aCy (rB back x bO.1) hx hS MO h' j hj Dh;exact⟨k,Ql,hk,by omega,⟨lo.toNat+n,by omega,.inl JI,oJ.2 ⟨j,hr,jK⟩⟩,uR⟩
  rename_i JI;obtain⟨n,k,Ql,hn,hk,RO,jK,uR⟩:=aDE (rB back x bO.1) (yT-lo).toNat m j h' h2 hj Dh;exact⟨k,Ql,hk,by omega,⟨lo.toNat+n,by omega,.inr (by omega),oJ.2 ⟨j,hr,jK⟩⟩,uR⟩
theorem PI:∀l:List aG,cU l->Fw c bV false (jz has c false l) (yG has bV false l)
 | [],_,a,b,i,h,hs,hi,hh=>by simp only[jz]at hs;subst hs;exact⟨i,h,hi,Nat.le_refl _,by simp only[yG],hh⟩
 | x::l,bO,a,b,i,h,hs,hi,hh=>by
  simp only[cU]at bO;simp only[jz]at hs;obtain⟨m,h1,h2⟩:=hs;obtain⟨j,h',hj,hle,hr,Dh⟩:=rB false x bO.1 a m i h h1 hi hh;obtain⟨k,Ql,hk,RO,jK,uR⟩:=PI l bO.2 m b j h' h2 hj Dh;exact⟨k,Ql,hk,by omega,by simp only[yG];exact⟨j,hr,jK⟩,uR⟩
theorem PG:∀l:List aG,cU l->Fw c bV true (nU has c true l) (yF has bV true l)
 | [],_,a,b,i,h,hs,hi,hh=>by simp only[nU]at hs;subst hs;exact⟨i,h,hi,Nat.le_refl _,by simp only[yF],hh⟩
 | x::l,bO,a,b,i,h,hs,hi,hh=>by
  simp only[cU]at bO;simp only[nU]at hs;obtain⟨m,h1,h2⟩:=hs;obtain⟨j,h',hj,hle,hr,Dh⟩:=PG l bO.2 a m i h h1 hi hh;obtain⟨k,Ql,hk,RO,jK,uR⟩:=rB true x bO.1 m b j h' h2 hj Dh;exact⟨k,Ql,hk,by omega,by simp only[yF];exact⟨j,hr,jK⟩,uR⟩
theorem PD:∀(back:Bool) (l:List aG),cU l->Fw c bV back (lM has c back l) (Ch has bV back l)
 | _,[],_,a,b,i,h,hs,hi,hh=>by simp only[lM]at hs
 | back,x::l,bO,a,b,i,h,hs,hi,hh=>by
  simp only[cU]at bO;simp only[lM]at hs;simp only[Ch];rcases hs with ⟨rfl,hs⟩|⟨_,m,hx,h1,hj,h2⟩
  ·obtain⟨j,h',hj,hle,hr,Dh⟩:=rB back x bO.1 a b i h hs hi hh;exact⟨j,h',hj,hle,.inl hr,Dh⟩
  obtain⟨h0,rfl,hq⟩:=sW hx hh;rw[Int.toNat_natCast,Int.toNat_natCast]at hq;rcases hq with hh|hh
  ·obtain⟨j,h',hj',hle,hr,Dh⟩:=rB back x bO.1 (a+1) m i h0 h1 hi hh;obtain⟨h3,rfl,hh3⟩:=D3 hj Dh;rw[Int.toNat_natCast]at hh3;exact⟨j,h3,hj',by omega,.inl hr,hh3⟩
  obtain⟨j,h',hj',hle,hr,Dh⟩:=PD back l bO.2 (m+1) b i h0 h2 hi hh;exact⟨j,h',hj',by omega,.inr hr,Dh⟩
end
mutual
theorem rA (vY:∀p∈bV,0<=p/\p<=1114111):∀(back:Bool) (x:aG),bK x->Bw c bV back (iD has c back x) (pk has bV back x)
 | back,.one k,_,a,b,i,j,hs,hi,hr,hh=>by
  simp only[iD]at hs;simp only[pk]at hr;obtain⟨rfl,q,s,hx,hq,hp⟩:=hs;obtain⟨p,e1,h1⟩:=hr;refine(gg hx ⟨by simp,by simp,by simp,by simp⟩).2 ⟨p,_,rd_some hi e1,?_,hh⟩;dsimp only;rw[AK hq];exact(hp p).2 h1
 | back,.any,_,a,b,i,j,hs,hi,hr,hh=>by
  simp only[iD]at hs;simp only[pk]at hr;obtain⟨rfl,q,s,hx,hq,hp⟩:=hs;obtain⟨p,e1⟩:=hr;refine(gg hx ⟨by simp,by simp,by simp,by simp⟩).2 ⟨p,_,rd_some hi e1,?_,hh⟩;dsimp only;rw[AK hq]
  have:=vY p (Yw e1);exact hp p this.1 this.2
 | back,.gh,_,a,b,i,j,hs,hi,hr,hh=>by
  simp only[iD]at hs;simp only[pk]at hr;obtain⟨rfl,hx⟩:=hs;obtain⟨rfl,e1⟩:=hr;rcases vF (back:=back) hi with ⟨_,e2⟩|⟨j,p',e3,e2⟩
  ·exact(mu hx rfl).2 ⟨e2,hh⟩
  rw[e1]at e3;cases e3
 | back,.cat l,bO,a,b,i,j,hs,hi,hr,hh=>by
  simp only[bK]at bO;simp only[iD]at hs;simp only[pk]at hr;cases back with
  | true=>exact PF vY l bO a b i j hs hi hr hh
  | false=>exact PH vY l bO a b i j hs hi hr hh
 | back,.alt l,bO,a,b,i,j,hs,hi,hr,hh=>by
  simp only[bK]at bO;simp only[iD]at hs;simp only[pk]at hr;exact PC vY back l bO a b i j hs hi hr hh
 | back,.many x lo yT,bO,a,b,i,j,hs,hi,hr,hh=>by
  simp only[bK]at bO;simp only[iD]at hs;simp only[Jw]at hr;obtain⟨m,h1,h2⟩:=hs;obtain⟨n,hn1,Z6,hr⟩:=hr;have hle:∀i j,i<=bV.length->pk has bV back x i j->j<=bV.length:=λi j=>wS x;rw[show n=lo.toNat+(n-lo.toNat) by omega]at hr
  obtain⟨k,r1,r2⟩:=oJ.1 hr;have hk:k<=bV.length:=Aa hle hi r1;refine OY hle (rA vY back x bO.1) lo.toNat a m i k h1 hi r1 ?_;split at h2
  ·obtain⟨hx,e,hS,MO,rfl⟩:=h2;exact PM hle (rA vY back x bO.1) hx hS MO _ k j hk r2 hh
  exact aDD hle (rA vY back x bO.1) _ m k j _ h2 hk (by omega) r2 hh
theorem PH (vY:∀p∈bV,0<=p/\p<=1114111):∀l:List aG,cU l->Bw c bV false (jz has c false l) (yG has bV false l)
 | [],_,a,b,i,j,hs,hi,hr,hh=>by simp only[jz]at hs;simp only[yG]at hr;subst hs;subst hr;exact hh
 | x::l,bO,a,b,i,j,hs,hi,hr,hh=>by
  simp only[cU]at bO;simp only[jz]at hs;simp only[yG]at hr;obtain⟨m,h1,h2⟩:=hs;obtain⟨k,r1,r2⟩:=hr;exact rA vY false x bO.1 a m i k h1 hi r1 (PH vY l bO.2 m b k j h2 (wS x hi r1) r2 hh)
theorem PF (vY:∀p∈bV,0<=p/\p<=1114111):∀l:List aG,cU l->Bw c bV true (nU has c true l) (yF has bV true l)
 | [],_,a,b,i,j,hs,hi,hr,hh=>by simp only[nU]at hs;simp only[yF]at hr;subst hs;subst hr;exact hh
 | x::l,bO,a,b,i,j,hs,hi,hr,hh=>by
  simp only[cU]at bO;simp only[nU]at hs;simp only[yF]at hr;obtain⟨m,h1,h2⟩:=hs;obtain⟨k,r1,r2⟩:=hr;exact PF vY l bO.2 a m i k h1 hi r1 (rA vY true x bO.1 m b k j h2 (Gy l hi r1) r2 hh)
theorem PC (vY:∀p∈bV,0<=p/\p<=1114111):∀(back:Bool) (l:List aG),cU l->Bw c bV back (lM has c back l) (Ch has bV back l)
 | _,[],_,a,b,i,j,hs,hi,hr,hh=>by simp only[lM]at hs
 | back,x::l,bO,a,b,i,j,hs,hi,hr,hh=>by
  simp only[cU]at bO;simp only[lM]at hs;simp only[Ch]at hr;rcases hs with ⟨rfl,hs⟩|⟨_,m,hx,h1,hj,h2⟩
  ·rcases hr with hr|hr
   ·exact rA vY back x bO.1 a b i j hs hi hr hh
   simp only[Ch]at hr
  refine(fE hx rfl).2 ?_;simp only[Int.toNat_natCast];rcases hr with hr|hr
  ·exact .inl (rA vY back x bO.1 (a+1) m i j h1 hi hr ((gI hj rfl).2 (by simpa only[Int.toNat_natCast] using hh)))
  exact .inr (PC vY back l bO.2 (m+1) b i j h2 hi hr hh)
end
theorem NI (vY:∀p∈bV,0<=p/\p<=1114111){x:aG}{b i:Nat}(bO:bK x)(hs:iD has c back x 0 b)(hy:c.ins[b]?=some ⟨5,0,0⟩)(hi:i<=bV.length):Acc c 0 (EK bV back i)↔lg has bV x i back:=by
 constructor
 ·rintro⟨h,hh⟩;obtain⟨j,h',_,_,hr,_⟩:=rB back x bO 0 b i h hs hi hh;exact⟨j,hr⟩
 rintro⟨j,hr⟩;exact rA vY back x bO 0 b i j hs hi hr (lN hy rfl)
end
mutual
def bG:aG->Nat
 | .one _=>1
 | .any=>1
 | .gh=>1
 | .cat l=>bl l
 | .alt l=>fI l
 | .many x lo hi=>lo.toNat*bG x+if hi<0 then bG x+2 else (hi-lo).toNat*(bG x+1)
def bl:List aG->Nat
 | []=>0
 | x::l=>bG x+bl l
def fI:List aG->Nat
 | []=>0
 | x::l=>if l=[] then bG x else bG x+2+fI l
end
section
variable {has:ax->Int->Prop} {c c':aD} {back:Bool}
theorem qg {S:Nat->Nat->Prop}{k:Nat}(h:∀a b,S a b->b=a+k):∀n a b,iterM S n a b->b=a+n*k
 | 0,a,b,e=>by cases e;simp
 | n+1,a,b,⟨m,h1,h2⟩=>by
  have:=h a m h1
  have:=qg h n m b h2;rw[Nat.succ_mul];omega
theorem wG {S:Nat->Nat->Prop}{k e:Nat}(h:∀a b,S a b->b=a+k):∀t m,sQ c S e t m->e=m+t*(k+1)
 | 0,m,e=>by cases e;simp
 | t+1,m,⟨_,m',h1,h2⟩=>by
  have:=h _ m' h1
  have:=wG h t m' h2;rw[Nat.succ_mul];omega
mutual
theorem fP:∀(x:aG) (a b:Nat),iD has c back x a b->b=a+bG x
 | .one k,a,b,h=>by simp only[iD]at h;exact h.1
 | .any,a,b,h=>by simp only[iD]at h;exact h.1
 | .gh,a,b,h=>by simp only[iD]at h;exact h.1
 | .cat l,a,b,h=>by
  simp only[iD]at h;split at h
  ·exact BZ l a b h
  exact vJ l a b h
 | .alt l,a,b,h=>by simp only[iD]at h;exact vI l a b h
 | .many x lo hi,a,b,h=>by
  simp only[iD]at h;obtain⟨m,h1,h2⟩:=h;have e1:=qg (λa b=>fP x a b) _ _ _ h1;simp only[bG];split at h2
  ·rename_i hn;obtain⟨_,e,h3,_,rfl⟩:=h2;have e2:=fP x _ _ h3;rw[if_pos hn];omega
  rename_i hn;have e2:=wG (λa b=>fP x a b) _ _ h2;rw[if_neg hn];omega
theorem vJ:∀(l:List aG) (a b:Nat),jz has c back l a b->b=a+bl l
 | [],a,b,h=>by simp only[jz]at h;simp only[bl];omega
 | x::l,a,b,h=>by
  simp only[jz]at h;obtain⟨m,h1,h2⟩:=h;have e1:=fP x _ _ h1;have e2:=vJ l _ _ h2;simp only[bl];omega
theorem BZ:∀(l:List aG) (a b:Nat),nU has c back l a b->b=a+bl l
 | [],a,b,h=>by simp only[nU]at h;simp only[bl];omega
 | x::l,a,b,h=>by
  simp only[nU]at h;obtain⟨m,h1,h2⟩:=h;have e1:=BZ l _ _ h1;have e2:=fP x _ _ h2;simp only[bl];omega
theorem vI:∀(l:List aG) (a b:Nat),lM has c back l a b->b=a+fI l
 | [],a,b,h=>by simp only[lM]at h
 | x::l,a,b,h=>by
  simp only[lM]at h;simp only[fI];rcases h with ⟨rfl,h⟩|⟨cY,m,_,h1,_,h2⟩
  ·rw[if_pos rfl];exact fP x _ _ h
  have e1:=fP x _ _ h1;have e2:=vI l _ _ h2;rw[if_neg cY];omega
end
def eK (c c':aD)(a b:Nat):Prop:=(∀k,a<=k->k<b->c'.ins[k]?=c.ins[k]?)/\∀(i:Nat) (s:List Rg),c.sets[i]?=some s->c'.sets[i]?=some s
theorem eK.sub {a b a' b':Nat}(h:eK c c' a b)(h1:a<=a')(h2:b'<=b):eK c c' a' b':=⟨λk h3 h4=>h.1 k (by omega) (by omega),h.2⟩
theorem lr {S S':Nat->Nat->Prop}{k A B:Nat}(hl:∀a b,S a b->b=a+k)(h:∀a b,A<=a->b<=B->S a b->S' a b):∀n a b,A<=a->b<=B->iterM S n a b->iterM S' n a b
 | 0,a,b,_,_,e=>e
 | n+1,a,b,ha,hb,⟨m,h1,h2⟩=>by
  have e1:=hl a m h1;have e2:=qg hl n m b h2;exact⟨m,h a m ha (by omega) h1,lr hl h n m b (by omega) hb h2⟩
theorem OJ {S S':Nat->Nat->Prop}{k A B:Nat}(hl:∀a b,S a b->b=a+k)(h:∀a b,A<=a->b<=B->S a b->S' a b)(hc:∀k,A<=k->k<B->c'.ins[k]?=c.ins[k]?):∀t m,A<=m->sQ c S B t m->sQ c' S' B t m
 | 0,m,_,e=>e
 | t+1,m,hm,⟨hx,m',h1,h2⟩=>by
  have e1:=hl _ m' h1;have e2:=wG hl t m' h2;exact⟨by rw[hc m hm (by omega)];exact hx,m',h _ _ (by omega) (by omega) h1,OJ hl h hc t m' (by omega) h2⟩
mutual
theorem dU:∀(x:aG) (a b:Nat),eK c c' a b->iD has c back x a b->iD has c' back x a b
 | .one k,a,b,hs,h=>by
  simp only[iD]at h ⊢
  obtain⟨rfl,i,s,h1,h2,h3⟩:=h;exact⟨rfl,i,s,by rw[hs.1 a (by omega) (by omega)];exact h1,hs.2 i s h2,h3⟩
 | .any,a,b,hs,h=>by
  simp only[iD]at h ⊢
  obtain⟨rfl,i,s,h1,h2,h3⟩:=h;exact⟨rfl,i,s,by rw[hs.1 a (by omega) (by omega)];exact h1,hs.2 i s h2,h3⟩
 | .gh,a,b,hs,h=>by
  simp only[iD]at h ⊢
  obtain⟨rfl,h1⟩:=h;exact⟨rfl,by rw[hs.1 a (by omega) (by omega)];exact h1⟩
 | .cat l,a,b,hs,h=>by
  simp only[iD]at h ⊢
  by_cases hb:back=true
  ·rw[if_pos hb]at h ⊢;exact wW l a b hs h
  rw[if_neg hb]at h ⊢;exact wX l a b hs h
 | .alt l,a,b,hs,h=>by simp only[iD]at h ⊢;exact EV l a b hs h
 | .many x lo hi,a,b,hs,h=>by
  simp only[iD]at h ⊢
  obtain⟨m,h1,h2⟩:=h;have hl:=λa b=>fP (has:=has) (c:=c) (back:=back) x a b;have e1:=qg hl _ _ _ h1;split at h2
  ·rename_i hn;obtain⟨hx,e,h3,h4,rfl⟩:=h2;have e2:=hl _ _ h3;refine⟨m,lr (A:=a) (B:=e+1) hl (λp q hp hq=>dU x p q (hs.sub hp hq)) _ _ _ (Nat.le_refl _) (by omega) h1,?_⟩;rw[if_pos hn];exact⟨by rw[hs.1 m (by omega) (by omega)];exact hx,e,dU x _ _ (hs.sub (by omega) (by omega)) h3,by rw[hs.1 e (by omega) (by omega)];exact h4,rfl⟩
  rename_i hn;have e2:=wG hl _ _ h2;refine⟨m,lr (A:=a) (B:=b) hl (λp q hp hq=>dU x p q (hs.sub hp hq)) _ _ _ (Nat.le_refl _) (by omega) h1,?_⟩;rw[if_neg hn];exact OJ (A:=m) hl (λp q hp hq=>dU x p q (hs.sub (by omega) hq)) (λk h3 h4=>hs.1 k (by omega) h4) _ _ (Nat.le_refl _) h2
theorem wX:∀(l:List aG) (a b:Nat),eK c c' a b->jz has c back l a b->jz has c' back l a b
 | [],a,b,hs,h=>by simp only[jz]at h ⊢;exact h
 | x::l,a,b,hs,h=>by
  simp only[jz]at h ⊢
  obtain⟨m,h1,h2⟩:=h;have e1:=fP x _ _ h1;have e2:=vJ l _ _ h2;exact⟨m,dU x _ _ (hs.sub (by omega) (by omega)) h1,wX l _ _ (hs.sub (by omega) (by omega)) h2⟩
theorem wW:∀(l:List aG) (a b:Nat),eK c c' a b->nU has c back l a b->nU has c' back l a b
 | [],a,b,hs,h=>by simp only[nU]at h ⊢;exact h
 | x::l,a,b,hs,h=>by
  simp only[nU]at h ⊢
  obtain⟨m,h1,h2⟩:=h;have e1:=BZ l _ _ h1;have e2:=fP x _ _ h2;exact⟨m,wW l _ _ (hs.sub (by omega) (by omega)) h1,dU x _ _ (hs.sub (by omega) (by omega)) h2⟩
theorem EV:∀(l:List aG) (a b:Nat),eK c c' a b->lM has c back l a b->lM has c' back l a b
 | [],a,b,hs,h=>by simp only[lM]at h
 | x::l,a,b,hs,h=>by
  simp only[lM]at h ⊢
  rcases h with ⟨rfl,h⟩|⟨cY,m,hx,h1,hj,h2⟩
  ·exact .inl ⟨rfl,dU x _ _ hs h⟩
  have e1:=fP x _ _ h1;have e2:=vI l _ _ h2;exact .inr ⟨cY,m,by rw[hs.1 a (by omega) (by omega)];exact hx,dU x _ _ (hs.sub (by omega) (by omega)) h1,by rw[hs.1 m (by omega) (by omega)];exact hj,EV l _ _ (hs.sub (by omega) (by omega)) h2⟩
end
def dd (c:aD)(a b n:Nat):Prop:=∀k,a<=k->k<b->∃x,c.ins[k]?=some x/\bL x c.sets.length n=true
theorem dd.join {a b d n:Nat}(h1:dd c a b n)(h2:dd c b d n):dd c a d n:=λk h3 h4=>by
 by_cases h:k<b
 ·exact h1 k h3 h
 exact h2 k (by omega) h4
theorem dd.one {a n:Nat}{x:I3}(h:c.ins[a]?=some x)(hr:bL x c.sets.length n=true):dd c a (a+1) n:=λk h1 h2=>by
 obtain rfl:k=a:=by omega
 exact⟨x,h,hr⟩
theorem qy {a b s n:Nat}(h1:a<n)(h2:b<n):bL ⟨2,(a:Int),(b:Int)⟩ s n=true:=by
 unfold bL;rw[if_neg (by simp),if_pos rfl,decide_eq_true_iff];dsimp only;omega
theorem BO {a s n:Nat}(h1:a<n):bL ⟨3,(a:Int),0⟩ s n=true:=by
 unfold bL;rw[if_neg (by simp),if_neg (by simp),if_pos rfl,decide_eq_true_iff];dsimp only;omega
theorem BP {a s n:Nat}(h1:a<s):bL ⟨1,(a:Int),0⟩ s n=true:=by
 unfold bL;rw[if_pos rfl,decide_eq_true_iff];dsimp only;omega
theorem Sv {s n:Int}:bL ⟨4,0,0⟩ s n=true:=by
 unfold bL;rw[if_neg (by decide),if_neg (by decide),if_neg (by decide),if_pos (by decide)];rfl
theorem Sw {s n:Int}:bL ⟨5,0,0⟩ s n=true:=by
 unfold bL;rw[if_neg (by decide),if_neg (by decide),if_neg (by decide),if_pos (by decide)];rfl
theorem tH {S:Nat->Nat->Prop}{k n:Nat}(hl:∀a b,S a b->b=a+k)(h:∀a b,b<n->S a b->dd c a b n):∀t a b,b<n->iterM S t a b->dd c a b n
 | 0,a,b,_,e=>by cases e;intro k h1 h2;omega
 | t+1,a,b,hb,⟨m,h1,h2⟩=>by
  have e2:=qg hl t m b h2;exact(h a m (by omega) h1).join (tH hl h t m b hb h2)
theorem Iy {S:Nat->Nat->Prop}{k e n:Nat}(hl:∀a b,S a b->b=a+k)(h:∀a b,b<n->S a b->dd c a b n)(he:e<n):∀t m,sQ c S e t m->dd c m e n
 | 0,m,e=>by cases e;intro k h1 h2;omega
 | t+1,m,⟨hx,m',h1,h2⟩=>by
  have e1:=hl _ m' h1;have e2:=wG hl t m' h2;exact(dd.one hx (qy (by omega) he)).join ((h _ m' (by omega) h1).join (Iy hl h he t m' h2))
mutual
theorem iB:∀(x:aG) (a b n:Nat),b<n->iD has c back x a b->dd c a b n
 | .one k,a,b,n,hn,h=>by
  simp only[iD]at h;obtain⟨rfl,i,s,h1,h2,h3⟩:=h;exact dd.one h1 (BP (List.getElem?_eq_some_iff.1 h2).1)
 | .any,a,b,n,hn,h=>by
  simp only[iD]at h;obtain⟨rfl,i,s,h1,h2,h3⟩:=h;exact dd.one h1 (BP (List.getElem?_eq_some_iff.1 h2).1)
 | .gh,a,b,n,hn,h=>by
  simp only[iD]at h;obtain⟨rfl,h1⟩:=h;exact dd.one h1 Sv
 | .cat l,a,b,n,hn,h=>by
  simp only[iD]at h;split at h
  ·exact B0 l a b n hn h
  exact Bd l a b n hn h
 | .alt l,a,b,n,hn,h=>by simp only[iD]at h;exact BW l a b n hn h
 | .many x lo hi,a,b,n,hn,h=>by
  simp only[iD]at h;obtain⟨m,h1,h2⟩:=h;have hl:=λa b=>fP (has:=has) (c:=c) (back:=back) x a b;split at h2
  ·obtain⟨hx,e,h3,h4,rfl⟩:=h2;have e2:=hl _ _ h3;exact(tH hl (λp q hq=>iB x p q n hq) _ _ _ (by omega) h1).join ((dd.one hx (qy (by omega) (by omega))).join ((iB x _ _ n (by omega) h3).join (dd.one h4 (BO (by omega)))))
  have e2:=wG hl _ _ h2;exact(tH hl (λp q hq=>iB x p q n hq) _ _ _ (by omega) h1).join (Iy hl (λp q hq=>iB x p q n hq) hn _ _ h2)
theorem Bd:∀(l:List aG) (a b n:Nat),b<n->jz has c back l a b->dd c a b n
 | [],a,b,n,hn,h=>by simp only[jz]at h;subst h;intro k h1 h2;omega
 | x::l,a,b,n,hn,h=>by
  simp only[jz]at h;obtain⟨m,h1,h2⟩:=h;have e2:=vJ l _ _ h2;exact(iB x _ _ n (by omega) h1).join (Bd l _ _ n hn h2)
theorem B0:∀(l:List aG) (a b n:Nat),b<n->nU has c back l a b->dd c a b n
 | [],a,b,n,hn,h=>by simp only[nU]at h;subst h;intro k h1 h2;omega
 | x::l,a,b,n,hn,h=>by
  simp only[nU]at h;obtain⟨m,h1,h2⟩:=h;have e2:=fP x _ _ h2;exact(B0 l _ _ n (by omega) h1).join (iB x _ _ n hn h2)
theorem BW:∀(l:List aG) (a b n:Nat),b<n->lM has c back l a b->dd c a b n
 | [],a,b,n,hn,h=>by simp only[lM]at h
 | x::l,a,b,n,hn,h=>by
  simp only[lM]at h;rcases h with ⟨rfl,h⟩|⟨cY,m,hx,h1,hj,h2⟩
  ·exact iB x _ _ n hn h
  have e1:=fP x _ _ h1;have e2:=vI l _ _ h2;exact(dd.one hx (qy (by omega) (by omega))).join ((iB x _ _ n (by omega) h1).join ((dd.one hj (BO hn)).join (BW l _ _ n hn h2)))
end
end
mutual
def cT:aG->Prop
 | .one _=>True
 | .any=>True
 | .gh=>True
 | .cat l=>gB l
 | .alt l=>l≠[]/\gB l
 | .many x _ _=>cT x
def gB:List aG->Prop
 | []=>True
 | x::l=>cT x/\gB l
end
theorem qw:∀{l:List aG} {x:aG},gB l->cT x->gB (l++[x])
 | [],x,_,h=>by simp only[List.nil_append,gB];exact⟨h,trivial⟩
 | y::l,x,hl,h=>by
  simp only[gB,List.cons_append]at hl ⊢
  exact⟨hl.1,qw hl.2 h⟩
theorem uw (d:Nat):∀(n c:Nat) (x:aG),cT x->Iv cT (bX d n c x)
 | 0,_,_,_=>Iv.fail
 | n+1,c,x,hx=>Iv.pb Ds λr hr=>by
   cases r with
   | none=>exact Iv.pr hx
   | some q =>
    refine Iv.ite (λ_=>Iv.fail) λ_=>uw d n (c+1) _ ?_;simp only[cT];exact hx
theorem SO {d:Nat}{unit:Pa aG}(h:Iv cT unit):Iv cT (aY d unit):=Iv.pb h λx hx=>uw d _ _ _ hx
theorem Aw {again:Pa aG}(h:Iv cT again):∀(n:Nat) (a:List aG),gB a->Iv gB (bF again n a)
 | 0,_,_=>Iv.fail
 | n+1,a,ha=>Iv.ay (Iv.pb h λx hx=>Aw h n _ (qw ha hx)) (Iv.pr ha)
theorem Yc {l:List aG}(h:gB l):cT (rowOf l):=by
 match l with
 | []=>simp only[rowOf,cT];exact h
 | [x]=>simp only[gB]at h;exact h.1
 | x::y::l=>simp only[rowOf,cT];exact h
theorem UI {l:List aG}(h:l≠[]/\gB l):cT (jO l):=by
 match l with
 | []=>exact absurd rfl h.1
 | [x]=>have h:=h.2;simp only[gB]at h;exact h.1
 | x::y::l=>simp only[jO,cT];exact h
theorem aB4 {again:Pa aG}(h:Iv cT again):Iv cT (iI again):=Iv.pb (Aw h _ _ (by simp only[gB])) λps tC=>Iv.pr (Yc tC)
theorem Av {row:Pa aG}(h:Iv cT row):∀(n:Nat) (a:List aG),a≠[]/\gB a->Iv (λa=>a≠[]/\gB a) (eS row n a)
 | 0,_,_=>Iv.fail
 | n+1,a,ha=>Iv.ay (Iv.pb Iv.pop λ_ _=>Iv.pb h λx hx=>Av h n _ ⟨by simp,qw ha.2 hx⟩) (Iv.pr ha)
theorem aB2 {row:Pa aG}(h:Iv cT row):Iv cT (LR row):=Iv.pb h λx hx=>Iv.pb (Av h _ _ ⟨by simp,by simp only[gB];exact⟨hx,trivial⟩⟩) λps tC=>Iv.pr (UI tC)
theorem Oi {d:Nat}{unit:Pa aG}(h:Iv cT unit):Iv cT (BF d unit):=Iv.ite (λ_=>Iv.fail) λ_=>aB2 (aB4 (SO h))
theorem Oj:∀d,Iv cT (aw d)
 | 0=>Iv.fail
 | d+1=>Iv.ay (Iv.pb Iv.pop λ_ _=>Iv.pr (by simp only[cT])) (Iv.ay (Iv.pb Iv.pop λ_ _=>Iv.pr (by simp only[cT]))
   (Iv.ay (Iv.pb Iv.pop λ_ _=>Iv.pb (Oi (Oj d)) λx hx=>Iv.pb (fg _) λ_ _=>Iv.pr hx)
    (Iv.ay (Iv.pb (Ac (d+1)) λk hk=>Iv.pr (by simp only[cT])) Iv.fail)))
theorem Xq (d:Nat):Iv cT (qu d):=Oi (Oj d)
theorem aB5:Iv (λr=>cT r.before/\cT r.after) lL:=Iv.pb Iv.dY λt _=>Iv.pb yj λb _=>Iv.pb (Xq 9) λx hx=>Iv.pb (fg _) λ_ _=>Iv.pb (Xq 9) λy hy=>Iv.pb (fg _) λ_ _=>Iv.pr ⟨hx,hy⟩
theorem xh:∀(n:Nat) (acc:List dJ),(∀r∈acc,cT r.before/\cT r.after)->Iv (λl=>∀r∈l,cT r.before/\cT r.after) (bT n acc)
 | 0,_,_=>Iv.fail
 | n+1,acc,ha=>Iv.ay (Iv.ite (λ_=>Iv.fail) λh=>Iv.pb aB5 λr hr=>xh n _ (λx hx=>by
   rcases List.mem_append.1 hx with hx|hx
   ·exact ha x hx
   rw[List.mem_singleton.1 hx];exact hr)) (Iv.pr ha)
theorem aB3:Iv (λf=>∀r∈f.rules,cT r.before/\cT r.after) jC:=Iv.pb (pG _ _ ⟨by simp,by simp⟩) λcs iS=>Iv.pb (xh _ _ (by simp)) λrs jV =>
 Iv.pb (I:=Tv) (λl x l' hl e=>⟨trivial,(show Iv Tv nz from Iv.ay (Iv.pb Iv.pop λ_ _=>Iv.pb yj λ_ _=>Iv.pb (fg _) λ_ _=>Iv.pr trivial) (Iv.pr trivial)) l x l' hl e |>.2⟩) λb _=>Iv.pr jV
section
variable (has:ax->Int->Prop) (c:aD) (back:Bool)
def mC:List aG->Nat->List Nat->Nat->Prop
 | [],a,js,b=>js=[]/\a=b
 | x::l,a,js,b=>∃j js',js=j::js'/\c.ins[a]?=some ⟨2,((a+1:Nat):Int),((j+1:Nat):Int)⟩/\iD has c back x (a+1) j/\c.ins[j]?=some ⟨3,0,0⟩/\mC l (j+1) js' b
end
section
variable {has:ax->Int->Prop} {c c':aD} {back:Bool}
theorem KJ:∀(l m:List aG) (a b d:Nat) (js ks:List Nat),mC has c back l a js b->mC has c back m b ks d->mC has c back (l++m) a (js++ks) d
 | [],m,a,b,d,js,ks,h1,h2=>by
  simp only[mC]at h1;obtain⟨rfl,rfl⟩:=h1;exact h2
 | x::l,m,a,b,d,js,ks,h1,h2=>by
  simp only[mC]at h1;obtain⟨j,js',rfl,h3,h4,h5,h6⟩:=h1;simp only[List.cons_append,mC];exact⟨j,_,rfl,h3,h4,h5,KJ l m (j+1) b d js' ks h6 h2⟩
theorem vK:∀(l:List aG) (a b:Nat) (js:List Nat),mC has c back l a js b->a<=b/\∀j∈js,a<j/\j<b
 | [],a,b,js,h=>by
  simp only[mC]at h;obtain⟨rfl,rfl⟩:=h;exact⟨Nat.le_refl _,λj hj=>by cases hj⟩
 | x::l,a,b,js,h=>by
  simp only[mC]at h;obtain⟨j,js',rfl,h3,h4,h5,h6⟩:=h;have e:=fP x _ _ h4;obtain⟨e1,e2⟩:=vK l _ _ _ h6;refine⟨by omega,λk hk=>?_⟩;rcases List.mem_cons.1 hk with rfl|hk
  ·exact⟨by omega,by omega⟩
  have:=e2 k hk;exact⟨by omega,by omega⟩
theorem wY:∀(l:List aG) (a b:Nat) (js:List Nat),eK c c' a b->mC has c back l a js b->mC has c' back l a js b
 | [],a,b,js,hs,h=>by simp only[mC]at h ⊢;exact h
 | x::l,a,b,js,hs,h=>by
  have eY:=vK (x::l) a b js h;simp only[mC]at h ⊢
  obtain⟨j,js',rfl,h3,h4,h5,h6⟩:=h;have hj:=eY.2 j (List.mem_cons_self ..);exact⟨j,js',rfl,by rw[hs.1 a (by omega) (by omega)];exact h3,dU x _ _ (hs.sub (by omega) (by omega)) h4,by rw[hs.1 j (by omega) (by omega)];exact h5,wY l _ _ _ (hs.sub (by omega) (Nat.le_refl _)) h6⟩
structure kA (c c':aD)(ks:List Nat)(g:I3->I3):Prop where
 ins:∀k,c'.ins[k]?=if k∈ks then (c.ins[k]?).map g else c.ins[k]?
 sets:c'.sets=c.sets
theorem kA.same {ks:List Nat}{g:I3->I3}(h:kA c c' ks g){a b:Nat}(hk:∀k∈ks,k<a\/b<=k):eK c c' a b :=
 ⟨λk h1 h2=>by rw[h.ins k,if_neg (λhm=>by have:=hk k hm;omega)],λi s hs=>by rw[h.sets];exact hs⟩
theorem kA.nil (c:aD)(g:I3->I3):kA c c [] g:=⟨λk=>by simp,rfl⟩
theorem kA.len {ks:List Nat}{g:I3->I3}(h:kA c c' ks g):c'.ins.length=c.ins.length:=by
 have key:∀k,c'.ins[k]?=none↔c.ins[k]?=none:=λk=>by
  rw[h.ins k];by_cases hm:k∈ks
  ·rw[if_pos hm,Option.map_eq_none_iff]
  rw[if_neg hm]
 have h1:=key c.ins.length;have h2:=key c'.ins.length;simp only[List.getElem?_eq_none_iff]at h1 h2;omega
theorem kA.step {ks:List Nat}{g:I3->I3}(hg:∀x,g (g x)=g x)(h:kA c c' ks g){k:Nat}{x:I3}(hx:c'.ins[k]?=some x):kA c ⟨c'.sets,c'.ins.set k (g x)⟩ (ks++[k]) g :=
 ⟨λj=>by
  show (c'.ins.set k (g x))[j]?=_
  rw[List.getElem?_set];have ao:=(List.getElem?_eq_some_iff.1 hx).1;by_cases hj:k=j
  ·subst hj;rw[if_pos rfl,if_pos ao,if_pos (by simp)];have h1:=h.ins k;rw[hx]at h1;by_cases hm:k∈ks
   ·rw[if_pos hm]at h1;cases hc:c.ins[k]? with
    | none=>rw[hc]at h1;cases h1
    | some y =>
     rw[hc]at h1;simp only[Option.map_some,Option.some.injEq]at h1 ⊢
     rw[h1,hg]
   rw[if_neg hm]at h1;rw[<-h1];rfl
  rw[if_neg hj,h.ins j];have:(j∈ks++[k])↔j∈ks:=by simp;omega
  simp only[this],h.sets⟩
theorem Yi {y:aG}:∀(l:List aG) (a m e:Nat) (js:List Nat),kA c c' js (λx=>⟨x.op,(e:Int),x.b⟩)->mC has c back l a js m->iD has c back y m e->(∀k∈js,k<e)->lM has c' back (l++[y]) a e:=by
 intro l a m e js hT;have key:∀(l:List aG) (a:Nat) (ks:List Nat),(∀k∈ks,k∈js)->(∀k∈js,k∈ks\/k<a)->mC has c back l a ks m->iD has c back y m e->lM has c' back (l++[y]) a e:=by
  intro l;induction l with
  | nil =>
   intro a ks h1 h2 h3 h4;simp only[mC]at h3;obtain⟨rfl,rfl⟩:=h3;simp only[List.nil_append,lM];refine .inl ⟨trivial,dU y _ _ (hT.same λk hk=>?_) h4⟩;rcases h2 k hk with h|h
   ·cases h
   exact .inl h
  | cons x l ih =>
   intro a ks h1 h2 h3 h4;have eY:=vK (x::l) a m ks h3;simp only[mC]at h3;obtain⟨j,js',rfl,h5,h6,h7,h8⟩:=h3;have MM:=vK l _ _ _ h8;have hlen:=fP x _ _ h6;simp only[List.cons_append,lM];refine .inr ⟨by simp,j,?_,dU x _ _ (hT.same λk hk=>?_) h6,?_,ih (j+1) js' (λk hk=>h1 k (List.mem_cons_of_mem _ hk)) (λk hk=>?_) h8 h4⟩
   ·rw[hT.ins a,if_neg (λhm=>?_)]
    ·exact h5
    rcases h2 a hm with h|h
    ·have:=(eY.2 a h).1;omega
    omega
   ·rcases h2 k hk with h|h
    ·rcases List.mem_cons.1 h with rfl|h
     ·exact .inr (Nat.le_refl _)
     have:=(MM.2 k h).1;exact .inr (by omega)
    exact .inl (by omega)
   ·rw[hT.ins j,if_pos (h1 j (List.mem_cons_self ..)),h7];rfl
   rcases h2 k hk with h|h
   ·rcases List.mem_cons.1 h with rfl|h
    ·exact .inr (by omega)
    exact .inl h
   exact .inr (by omega)
 intro h3 h4 _;exact key l a js (λk h=>h) (λk h=>.inl h) h3 h4
def nV (c:aD)(S:Nat->Nat->Prop):Nat->Nat->List Nat->Nat->Prop
 | 0,m,ks,e=>ks=[]/\m=e
 | t+1,m,ks,e=>∃Ru,ks=m::Ru/\c.ins[m]?=some ⟨2,((m+1:Nat):Int),0⟩/\∃m',S (m+1) m'/\nV c S t m' Ru e
theorem E0 {S:Nat->Nat->Prop}{e e':Nat}(hx:c.ins[e]?=some ⟨2,((e+1:Nat):Int),0⟩)(hS:S (e+1) e'):∀(t m:Nat) (ks:List Nat),nV c S t m ks e->nV c S (t+1) m (ks++[e]) e'
 | 0,m,ks,h=>by
  simp only[nV]at h;obtain⟨rfl,rfl⟩:=h;simp only[List.nil_append,nV];exact⟨[],rfl,hx,e',hS,rfl,rfl⟩
 | t+1,m,ks,h=>by
  rw[nV]at h;obtain⟨Ru,rfl,h1,m',h2,h3⟩:=h;rw[List.cons_append,nV];exact⟨_,rfl,h1,m',h2,E0 hx hS t m' Ru h3⟩
theorem yq {S:Nat->Nat->Prop}{k e:Nat}(hl:∀a b,S a b->b=a+k):∀(t m:Nat) (ks:List Nat),nV c S t m ks e->e=m+t*(k+1)/\∀j∈ks,m<=j/\j<e
 | 0,m,ks,h=>by
  simp only[nV]at h;obtain⟨rfl,rfl⟩:=h;exact⟨by simp,λj hj=>by cases hj⟩
 | t+1,m,ks,h=>by
  rw[nV]at h;obtain⟨Ru,rfl,h1,m',h2,h3⟩:=h;have e1:=hl _ _ h2;obtain⟨e2,e3⟩:=yq hl t m' Ru h3;refine⟨by rw[Nat.succ_mul];omega,λj hj=>?_⟩;rcases List.mem_cons.1 hj with rfl|hj
  ·exact⟨Nat.le_refl _,by omega⟩
  have:=e3 j hj;exact⟨by omega,this.2⟩
theorem EZ {S S':Nat->Nat->Prop}{k e A:Nat}(hl:∀a b,S a b->b=a+k)(h:∀a b,A<=a->b<=e->S a b->S' a b)(hs:eK c c' A e):∀(t m:Nat) (ks:List Nat),A<=m->nV c S t m ks e->nV c' S' t m ks e
 | 0,m,ks,_,hh=>hh
 | t+1,m,ks,hA,hh=>by
  rw[nV]at hh ⊢
  obtain⟨Ru,rfl,h1,m',h2,h3⟩:=hh;have e1:=hl _ _ h2;have e2:=(yq hl t m' Ru h3).1;have e4:0<=t*(k+1):=Nat.zero_le _;exact⟨Ru,rfl,by rw[hs.1 m hA (by omega)];exact h1,m',h _ _ (by omega) (by omega) h2,EZ hl h hs t m' Ru (by omega) h3⟩
theorem PJ {S S':Nat->Nat->Prop}{k e:Nat}{js:List Nat}(hl:∀a b,S a b->b=a+k)(hT:kA c c' js (λx=>⟨x.op,x.a,(e:Int)⟩))(h:∀a b,S a b->(∀j∈js,j<a\/b<=j)->S' a b):∀(t m:Nat) (ks:List Nat),(∀j∈ks,j∈js)->(∀j∈js,j∈ks\/j<m)->nV c S t m ks e->sQ c' S' e t m
 | 0,m,ks,_,_,hh=>by
  simp only[nV]at hh;exact hh.2
 | t+1,m,ks,h1,h2,hh=>by
  rw[nV]at hh;obtain⟨Ru,rfl,h3,m',h4,h5⟩:=hh;have e1:=hl _ _ h4;have eY:=(yq hl t m' Ru h5).2;refine⟨?_,m',h _ _ h4 (λj hj=>?_),PJ hl hT h t m' Ru (λj hj=>h1 j (List.mem_cons_of_mem _ hj)) (λj hj=>?_) h5⟩
  ·rw[hT.ins m,if_pos (h1 m (List.mem_cons_self ..)),h3];rfl
  ·rcases h2 j hj with h|h
   ·rcases List.mem_cons.1 h with rfl|h
    ·exact .inl (by omega)
    have:=(eY j h).1;exact .inr (by omega)
   exact .inl (by omega)
  rcases h2 j hj with h|h
  ·rcases List.mem_cons.1 h with rfl|h
   ·exact .inr (by omega)
   exact .inl h
  exact .inr (by omega)
end
end Cae
namespace Cae
def oh (l:List Tok):Nat:=(l.map λt=>t.text.length).sum
structure Tw (fG:List (List UInt8))(l:List Tok):Prop where
 pos:∀t∈l,t.kind≠5->1<=t.text.length
 fG:∀t∈l,t.text ∉ fG
theorem Tw.tail {fG:List (List UInt8)}{t:Tok}{l:List Tok}(h:Tw fG (t::l)):Tw fG l:=⟨λx hx=>h.pos x (List.mem_cons_of_mem _ hx),λx hx=>h.fG x (List.mem_cons_of_mem _ hx)⟩
def Cw (fG:List (List UInt8)){α:Type}(Q:α->Nat->Prop)(p:Pa α):Prop:=∀l x l',Tw fG l->p l=.ok (x,l')->Tw fG l'/\∃d,oh l=d+oh l'/\Q x d
section
variable {fG:List (List UInt8)} {α β:Type} {Q:α->Nat->Prop} {R:β->Nat->Prop} {p:Pa α} {q:α->Pa β}
theorem Cw.pr {x:α}(h:Q x 0):Cw fG Q (pr x):=λl y l' hl e=>by cases e;exact⟨hl,0,by omega,h⟩
theorem Cw.fail {e:Nat}:Cw fG Q (dt e):=λl y l' _ h=>by cases h
theorem Cw.ie {Q':α->Nat->Prop}(h:Cw fG Q p)(hm:∀x d,Q x d->Q' x d):Cw fG Q' p:=λl x l' hl e=>by
 obtain⟨h1,d,h2,h3⟩:=h l x l' hl e;exact⟨h1,d,h2,hm x d h3⟩
theorem Cw.pb (h:Cw fG Q p)(k:∀x d,Q x d->Cw fG (λy e=>R y (d+e)) (q x)):Cw fG R (pb p q):=λl y l' hl e=>by
 obtain⟨x,l1,e1,e2⟩:=dr e;obtain⟨h1,d,h2,h3⟩:=h l x l1 hl e1;obtain⟨h4,d',h5,h6⟩:=k x d h3 l1 y l' h1 e2;exact⟨h4,d+d',by omega,h6⟩
theorem Cw.ay {cc:List Tok->Bool}{p1 p2:Pa α}(h1:Cw fG Q p1)(h2:Cw fG Q p2):Cw fG Q (ay cc p1 p2):=λl x l' hl e=>by
 unfold Cae.ay at e;split at e
 ·exact h1 l x l' hl e
 exact h2 l x l' hl e
theorem Cw.aKT {m:List UInt8}{p1 p2:Pa α}(hm:m∈fG)(h2:Cw fG Q p2):Cw fG Q (Cae.ay (dT m) p1 p2):=λl x l' hl e=>by
 unfold Cae.ay at e;split at e
 ·rename_i hs;exfalso;unfold dT at hs;rw[Bool.and_eq_true]at hs;cases l with
  | nil=>simp[hd]at hs
  | cons t r =>
   have h1:t.text=m:=by simpa[hd] using hs.2
   exact hl.fG t (List.mem_cons_self ..) (h1▸hm)
 exact h2 l x l' hl e
theorem Cw.ite {c:Prop}[Decidable c]{p1 p2:Pa α}(h1:c->Cw fG Q p1)(h2:¬c->Cw fG Q p2):Cw fG Q (if c then p1 else p2):=by
 by_cases h:c
 ·rw[if_pos h];exact h1 h
 rw[if_neg h];exact h2 h
end
section
variable {fG:List (List UInt8)}
def Dv (n:Nat){α:Type}(_:α)(d:Nat):Prop:=n<=d
theorem Cw.dY:Cw fG (Dv 0) dY:=λl x l' hl e=>by cases e;exact⟨hl,0,by omega,Nat.le_refl _⟩
theorem Cw.pop:Cw fG (Dv 1) cL:=λl x l' hl e=>by
 obtain⟨t,rfl,hk⟩:=tO e;refine⟨hl.tail,t.text.length,by simp[oh],hl.pos t (List.mem_cons_self ..) hk⟩
theorem jQ (s:List UInt8):Cw fG (Dv 1) (cg s):=Cw.ay Cw.pop Cw.fail
theorem dL {α β:Type}{p:Pa α}{q:α->Pa β}{n m:Nat}(h:Cw fG (Dv n) p)(k:∀x,Cw fG (Dv m) (q x)):Cw fG (Dv (n+m)) (pb p q) :=
 Cw.pb h λx d hd=>(k x).ie λy e he=>by show n+m<=d+e;exact Nat.add_le_add hd he
theorem fJ {α:Type}{p:Pa α}{n m:Nat}(h:Cw fG (Dv n) p)(hm:m<=n):Cw fG (Dv m) p:=h.ie λ_ _ hd=>Nat.le_trans hm hd
theorem Np:Cw fG (Dv 1) mW:=Cw.ay (Cw.ay Cw.fail (dL (n:=0) (m:=1) Cw.dY λt=>dL (n:=1) (m:=0) Cw.pop λ_=>Cw.pr (Nat.le_refl _))) Cw.fail
theorem aEq:Cw fG (Dv 0) tq :=
 Cw.ay (fJ (dL (n:=1) (m:=0) Cw.pop λ_=>Cw.pr (Nat.le_refl _)) (by omega)) (Cw.ay (fJ (dL (n:=1) (m:=0) Cw.pop λ_=>Cw.pr (Nat.le_refl _)) (by omega)) (Cw.ay (fJ (dL (n:=1) (m:=0) Cw.pop λ_=>Cw.pr (Nat.le_refl _)) (by omega)) (Cw.pr (Nat.le_refl _))))
theorem xJ {one:Pa ax}(h:Cw fG (Dv 1) one)(pos:Nat):∀(n:Nat) (k:ax),Cw fG (Dv 0) (dN one pos n k)
 | 0,_=>Cw.fail
 | n+1,k=>fJ (dL (n:=0) (m:=0) aEq λc=>Cw.ite (λ_=>Cw.pr (Nat.le_refl _)) λ_=>fJ (dL (n:=1) (m:=0) h λr=>xJ h pos n _) (by omega)) (by omega)
theorem Hy {one:Pa ax}(h:Cw fG (Dv 1) one):Cw fG (Dv 1) (sM one):=dL (n:=0) (m:=1) Cw.dY λt=>dL (n:=1) (m:=0) h λk=>xJ h _ _ _
theorem aEr:Cw fG (Dv 1) G9:=dL (n:=0) (m:=1) Cw.dY λt=>by
 split
 ·exact Cw.fail
 exact dL (n:=1) (m:=0) Cw.pop λ_=>Cw.pr (Nat.le_refl _)
theorem FK:∀d,Cw fG (Dv 1) (kZ d)
 | 0=>Cw.fail
 | d+1=>Cw.ay aEr (Cw.ay (dL (n:=0) (m:=1) Cw.dY λt=>dL (n:=1) (m:=0) Cw.pop λ_=>fJ (dL (n:=1) (m:=0) (FK d) λk=>Cw.pr (Nat.le_refl _)) (by omega))
  (Cw.ay (dL (n:=1) (m:=0) Cw.pop λ_=>fJ (dL (n:=1) (m:=1) (Hy (FK d)) λk=>dL (n:=1) (m:=0) (jQ _) λ_=>Cw.pr (Nat.le_refl _)) (by omega))
   (dL (n:=0) (m:=1) Cw.dY λt=>dL (n:=1) (m:=0) Np λn=>Cw.pr (Nat.le_refl _))))
theorem Hz:Cw fG (λn d=>n<=12/\1<=d) j5:=Cw.ay (Cw.pb (Q:=Dv 0) Cw.dY λt d _=>Cw.ite (λ_=>Cw.fail) λh=>Cw.pb (Q:=Dv 1) Cw.pop λ_ e he=>Cw.pr ⟨by omega,by have:1<=e:=he;omega⟩) Cw.fail
def Ze (q:Int×Int):Prop:=0<=q.1/\q.1<=12/\q.2<=12/\(q.2<0\/q.1<=q.2)
theorem QL:Cw fG (λq d=>Ze q) dA:=Cw.pb Hz λlo d AV=>Cw.ay (Cw.pb (Q:=Dv 1) Cw.pop λ_ _ _=>Cw.ay
  (Cw.pb Hz λhi _ Wn=>Cw.ite (λ_=>Cw.fail) λh=>Cw.pb (jQ _) λ_ _ _=>Cw.pr (by unfold Ze;dsimp only;omega))
  (Cw.pb (jQ _) λ_ _ _=>Cw.pr (by unfold Ze;dsimp only;omega)))
 (Cw.pb (jQ _) λ_ _ _=>Cw.pr (by unfold Ze;dsimp only;omega))
structure sU (fG:List (List UInt8))(M:aG->Nat->Prop)(ML AL:List aG->Nat->Prop):Prop where
 ie:∀x d e,M x d->d<=e->M x e
 one:∀k,M (.one k) 1
 any:M .any 1
 gh:M .gh 1
 nil:ML [] 0
 snoc:∀l x d e,ML l d->M x e->ML (l++[x]) (d+e)
 cat:∀l d,ML l d->M (rowOf l) d
 first:∀x d,M x d->AL [x] d
 more:∀l x d e,AL l d->M x e->AL (l++[x]) (d+1+e)
 alt:∀l d,AL l d->M (jO l) d
 J4:∀l d e,AL l d->d<=e->AL l e
 Oz:∀l d e,ML l d->d<=e->ML l e
 suf:Cw fG (λo d=>∀q,o=some q->1<=d/\∀x e,M x e->M (.many x q.1 q.2) (e+d)) eJ
variable {M:aG->Nat->Prop} {ML AL:List aG->Nat->Prop}
theorem uv (h:sU fG M ML AL)(d:Nat):∀(n c:Nat) (x:aG) (a:Nat),M x a->Cw fG (λy e=>M y (a+e)) (bX d n c x)
 | 0,_,_,_,_=>Cw.fail
 | n+1,c,x,a,hx=>Cw.pb h.suf λr b hr=>by
   cases r with
   | none=>exact Cw.pr (h.ie _ _ _ hx (by omega))
   | some q =>
    have hq:=hr q rfl;exact Cw.ite (λ_=>Cw.fail) λ_=>(uv h d n (c+1) _ (a+b) (hq.2 x a hx)).ie λy e he=>by rw[<-Nat.add_assoc];exact he
theorem SN (h:sU fG M ML AL){d:Nat}{unit:Pa aG}(hu:Cw fG M unit):Cw fG M (aY d unit):=Cw.pb hu λx a hx=>uv h d _ _ x a hx
theorem Au (h:sU fG M ML AL){again:Pa aG}(ha:Cw fG M again):∀(n:Nat) (l:List aG) (a:Nat),ML l a->Cw fG (λl e=>ML l (a+e)) (bF again n l)
 | 0,_,_,_=>Cw.fail
 | n+1,l,a,hl=>Cw.ay (Cw.pb ha λx b hx=>(Au h ha n _ (a+b) (h.snoc _ _ _ _ hl hx)).ie λy e he=>by rw[<-Nat.add_assoc];exact he) (Cw.pr (h.Oz _ _ _ hl (by omega)))
theorem aBY (h:sU fG M ML AL){again:Pa aG}(ha:Cw fG M again):Cw fG M (iI again):=Cw.pb ((Au h ha _ [] 0 h.nil)) λps b tC=>Cw.pr (h.cat _ _ (h.Oz _ _ _ tC (by omega)))
theorem As (h:sU fG M ML AL){row:Pa aG}(hr:Cw fG M row):∀(n:Nat) (l:List aG) (a:Nat),AL l a->Cw fG (λl e=>AL l (a+e)) (eS row n l)
 | 0,_,_,_=>Cw.fail
 | n+1,l,a,hl=>Cw.ay (Cw.pb (Q:=Dv 1) Cw.pop λ_ b hb=>Cw.pb hr λx c hx=>(As h hr n _ (a+1+c) (h.more _ _ _ _ hl hx)).ie λy e he=>h.J4 _ _ _ he (by have:1<=b:=hb;omega)) (Cw.pr (h.J4 _ _ _ hl (by omega)))
theorem aBW (h:sU fG M ML AL){row:Pa aG}(hr:Cw fG M row):Cw fG M (LR row):=Cw.pb hr λx a hx=>Cw.pb (As h hr _ [x] a (h.first _ _ hx)) λps b tC=>Cw.pr (h.alt _ _ (h.J4 _ _ _ tC (by omega)))
theorem Oe (h:sU fG M ML AL){d:Nat}{unit:Pa aG}(hu:Cw fG M unit):Cw fG M (BF d unit):=Cw.ite (λ_=>Cw.fail) λ_=>aBW h (aBY h (SN h hu))
theorem Of (h:sU fG M ML AL):∀d,Cw fG M (aw d)
 | 0=>Cw.fail
 | d+1=>Cw.ay (Cw.pb (Q:=Dv 1) Cw.pop λ_ b hb=>Cw.pr (h.ie _ _ _ h.any (by have:1<=b:=hb;omega))) (Cw.ay (Cw.pb (Q:=Dv 1) Cw.pop λ_ b hb=>Cw.pr (h.ie _ _ _ h.gh (by have:1<=b:=hb;omega)))
   (Cw.ay (Cw.pb (Q:=Dv 1) Cw.pop λ_ b hb=>Cw.pb (Oe h (Of h d)) λx c hx=>Cw.pb (jQ _) λ_ _ _=>Cw.pr (h.ie _ _ _ hx (by omega)))
    (Cw.ay (Cw.pb (FK (d+1)) λk b hb=>Cw.pr (h.ie _ _ _ (h.one k) (by have:1<=b:=hb;omega))) Cw.fail)))
theorem Xl (h:sU fG M ML AL)(d:Nat):Cw fG M (qu d):=Oe h (Of h d)
end
section
variable {fG:List (List UInt8)}
theorem QM {α:Type}{m:List UInt8}{k:Nat}{v:α}{p2:Pa α}(hk:k<=m.length)(h2:Cw fG (Dv k) p2):Cw fG (Dv k) (ay (dT m) (pb cL λ_=>pr v) p2):=λl x l' hl e=>by
 unfold Cae.ay at e;split at e
 ·rename_i hs;obtain⟨y,l1,e1,e2⟩:=dr e;obtain⟨t,rfl,CT⟩:=tO e1;cases e2;unfold dT at hs;rw[Bool.and_eq_true]at hs;have ht:t.text=m:=by simpa[hd] using hs.2
  exact⟨hl.tail,t.text.length,by simp[oh],by show k<=t.text.length;rw[ht];exact hk⟩
 exact h2 l x l' hl e
theorem Nq:Cw fG (Dv 4) gW:=QM (by decide) (λl x l' hl e=>by
 obtain⟨y,l1,e1,e2⟩:=dr e;cases e2;unfold cg Cae.ay at e1;split at e1
 ·rename_i hs;obtain⟨t,rfl,CT⟩:=tO e1;unfold dT at hs;rw[Bool.and_eq_true]at hs;have ht:t.text=[107,101,101,112]:=by simpa[hd] using hs.2
  exact⟨hl.tail,t.text.length,by simp[oh],by show 4<=t.text.length;rw[ht];decide⟩
 cases e1)
def RM (M:aG->Nat->Prop)(r:dJ)(n:Nat):Prop:=∃a b,M r.before a/\M r.after b/\a+b+6<=n
variable {M:aG->Nat->Prop} {ML AL:List aG->Nat->Prop}
theorem aBZ (h:sU fG M ML AL):Cw fG (RM M) lL:=Cw.pb (Q:=Dv 0) Cw.dY λt _ _=>Cw.pb Nq λb d hd=>Cw.pb (Xl h 9) λx a hx=>Cw.pb (jQ _) λ_ c hc=>Cw.pb (Xl h 9) λy b hy=>Cw.pb (jQ _) λ_ e he=>Cw.pr ⟨a,b,hx,hy,by have h1:4<=d:=hd;have h2:1<=c:=hc;have h3:1<=e:=he;omega⟩
theorem xg (h:sU fG M ML AL):∀(n:Nat) (acc:List dJ) (a:Nat),(∀r∈acc,RM M r a)->Cw fG (λl e=>∀r∈l,RM M r (a+e)) (bT n acc)
 | 0,_,_,_=>Cw.fail
 | n+1,acc,a,ha=>Cw.ay (Cw.ite (λ_=>Cw.fail) λ_=>Cw.pb (aBZ h) λr b hr=>(xg h n _ (a+b) (λx hx=>by
   rcases List.mem_append.1 hx with hx|hx
   ·obtain⟨p,q,h1,h2,h3⟩:=ha x hx;exact⟨p,q,h1,h2,by omega⟩
   rw[List.mem_singleton.1 hx];obtain⟨p,q,h1,h2,h3⟩:=hr;exact⟨p,q,h1,h2,by omega⟩)).ie λl e he r hr=>by rw[<-Nat.add_assoc];exact he r hr) (Cw.pr (λr hr=>by obtain⟨p,q,h1,h2,h3⟩:=ha r hr;exact⟨p,q,h1,h2,by omega⟩))
theorem VW:Cw fG (Dv 0) nW:=fJ (dL (n:=0) (m:=0) Cw.dY λt=>fJ (dL (n:=1) (m:=0) (jQ _) λ_=>fJ (dL (n:=1) (m:=0) Np λn=>fJ (dL (n:=1) (m:=0) (jQ _) λ_=>fJ (dL (n:=1) (m:=0) (Hy (FK 9)) λk=>fJ (dL (n:=1) (m:=0) (jQ _) λ_=>Cw.pr (Nat.le_refl _)) (by omega)) (by omega)) (by omega)) (by omega)) (by omega)) (by omega)
theorem uC:∀(n:Nat) (acc:List fD),Cw fG (Dv 0) (bU n acc)
 | 0,_=>Cw.fail
 | n+1,acc=>Cw.ay (Cw.ite (λ_=>Cw.fail) λ_=>fJ (dL (n:=0) (m:=0) VW λc=>uC n _) (by omega)) (Cw.pr (Nat.le_refl _))
theorem aAj:Cw fG (Dv 0) nz:=Cw.ay (fJ (dL (n:=1) (m:=0) Cw.pop λ_=>fJ (dL (n:=4) (m:=0) Nq λ_=>fJ (dL (n:=1) (m:=0) (jQ _) λ_=>Cw.pr (Nat.le_refl _)) (by omega)) (by omega)) (by omega)) (Cw.pr (Nat.le_refl _))
theorem aBX (h:sU fG M ML AL):Cw fG (λf d=>∀r∈f.rules,RM M r d) jC:=Cw.pb (uC _ _) λcs a _=>Cw.pb (xg h _ [] 0 (by simp)) λrs b jV=>Cw.pb aAj λe c _=>Cw.pr (λr hr=>by obtain⟨p,q,h1,h2,h3⟩:=jV r hr;exact⟨p,q,h1,h2,by omega⟩)
theorem NP (l:List Tok):y9 l=oh l:=by
 induction l with
 | nil=>rfl
 | cons t l ih=>simp[y9,oh]at ih ⊢
theorem Jq (h:sU fG M ML AL){s:List UInt8}{f:de}(hb:∀m∈fG,m≠[])(hs:∀m∈fG,¬m <:+: s)(hp:da s=.ok f):∀r∈f.rules,RM M r s.length:=by
 unfold da at hp;split at hp
 ·cases hp
 rename_i l hl;obtain⟨m,hm,e,hn⟩:=jq _ _ _ _ _ (by simp) hl;rw[List.nil_append]at e;have q8:=hm.sum;have hT:Tw fG l:=by
  rw[e];refine⟨λt ht hk=>?_,λt ht aFc=>?_⟩
  ·rcases List.mem_append.1 ht with ht|ht
   ·exact q8.2 t ht
   rw[List.mem_singleton.1 ht]at hk;exact absurd rfl hk
  rcases List.mem_append.1 ht with ht|ht
  ·exact hs _ aFc (hm.inside t ht)
  rw[List.mem_singleton.1 ht]at aFc;exact hb _ aFc rfl
 split at hp
 ·cases hp
 rename_i f' l' hf;split at hp
 ·cases hp;obtain⟨_,d,h2,h3⟩:=aBX h l _ _ hT hf;have hlen:oh l<=s.length:=by
   rw[e];have h1:=q8.1;rw[NP]at h1;simp[oh]at h1 ⊢
   exact h1
  intro r hr;obtain⟨p,q,h4,h5,h6⟩:=h3 r hr;exact⟨p,q,h4,h5,by omega⟩
 cases hp
end
theorem sY:∀(l:List aG) (x:aG),l≠[]->fI (l++[x])=fI l+2+bG x
 | [],x,h=>absurd rfl h
 | [y],x,_=>by simp[fI]
 | y::z::l,x,_=>by
  have:=sY (z::l) x (by simp);have e1:fI (y::(z::l++[x]))=bG y+2+fI (z::l++[x]):=by rw[fI,if_neg (by simp)]
  have e2:fI (y::z::l)=bG y+2+fI (z::l):=by rw[fI,if_neg (by simp)]
  rw[List.cons_append,e1,e2,this];omega
theorem zk (l:List aG)(x:aG):bl (l++[x])=bl l+bG x:=by
 induction l with
 | nil=>simp[bl]
 | cons y l ih=>rw[List.cons_append,bl,bl,ih];omega
theorem zn (l:List aG):bG (rowOf l)=bl l:=by
 match l with
 | []=>rfl
 | [x]=>simp[rowOf,bl]
 | x::y::l=>rfl
theorem zm (l:List aG):bG (jO l)=fI l:=by
 match l with
 | []=>rfl
 | [x]=>simp[jO,fI]
 | x::y::l=>rfl
theorem M9:sU [[43],[123]] (λx d=>bG x<=2*d) (λl d=>bl l<=2*d) (λl d=>l≠[]/\fI l<=2*d) where
 ie x d e h hd:=by omega
 one k:=by simp[bG]
 any:=by simp[bG]
 gh:=by simp[bG]
 nil:=by simp[bl]
 snoc l x d e h1 h2:=by rw[zk];omega
 cat l d h:=by rw[zn];exact h
 first x d h:=⟨by simp,by simpa[fI] using h⟩
 more l x d e h1 h2:=⟨by simp,by rw[sY l x h1.1];omega⟩
 alt l d h:=by rw[zm];exact h.2
 J4 l d e h hd:=⟨h.1,by omega⟩
 Oz l d e h hd:=by omega
 suf:=Cw.ay (Cw.pb (Q:=Dv 1) Cw.pop λ_ b hb=>Cw.pr (λq hq=>by cases hq;have h1:1<=b:=hb;exact⟨by omega,λx e he=>by simp[bG];omega⟩)) (Cw.aKT (by simp) (Cw.ay (Cw.pb (Q:=Dv 1) Cw.pop λ_ b hb=>Cw.pr (λq hq=>by cases hq;have h1:1<=b:=hb;exact⟨by omega,λx e he=>by simp[bG];omega⟩)) (Cw.aKT (by simp) (Cw.pr (λq hq=>by cases hq)))))
theorem QA {x:aG}{q:Int×Int}(hq:Ze q):bG (.many x q.1 q.2)+1<=16*(bG x+1):=by
 obtain⟨h1,h2,h3,h4⟩:=hq;obtain⟨lo,AV⟩:∃lo:Nat,q.1=lo:=⟨q.1.toNat,by omega⟩;simp only[bG,AV,Int.toNat_natCast];have hl:lo<=12:=by omega
 have h5:lo*bG x<=12*bG x:=Nat.mul_le_mul_right _ hl;split
 ·omega
 obtain⟨k,hk⟩:∃k:Nat,q.2=lo+k:=⟨(q.2-lo).toNat,by omega⟩;have e:(q.2-(lo:Int)).toNat=k:=by omega
 rw[e];have h6:lo*bG x+k*(bG x+1)<=(lo+k)*(bG x+1):=by rw[Nat.add_mul,Nat.mul_add lo];omega
 have h7:(lo+k)*(bG x+1)<=12*(bG x+1):=Nat.mul_le_mul_right _ (by omega);omega
theorem pow_two {a b d e:Nat}(h1:a+1<=16 ^ d)(h2:b+1<=16 ^ e):(a+1)*(b+1)<=16 ^ (d+e):=by rw[Nat.pow_add];exact Nat.mul_le_mul h1 h2
theorem Xd:sU [] (λx d=>bG x+1<=16 ^ d) (λl d=>bl l+1<=16 ^ d) (λl d=>l≠[]/\fI l+1<=16 ^ d) where
 ie x d e h hd:=Nat.le_trans h (Nat.pow_le_pow_right (by omega) hd)
 one k:=by simp[bG]
 any:=by simp[bG]
 gh:=by simp[bG]
 nil:=by simp[bl]
 snoc l x d e h1 h2:=by
  rw[zk]
  have:=pow_two h1 h2;have e1:(bl l+1)*(bG x+1)=bl l*bG x+bl l+bG x+1:=by rw[Nat.add_mul,Nat.mul_add];omega
  omega
 cat l d h:=by rw[zn];exact h
 first x d h:=⟨by simp,by simpa[fI] using h⟩
 more l x d e h1 h2:=⟨by simp,by
  rw[sY l x h1.1]
  have:=pow_two h1.2 h2;have e1:(fI l+1)*(bG x+1)=fI l*bG x+fI l+bG x+1:=by rw[Nat.add_mul,Nat.mul_add];omega
  have e2:16 ^ (d+1+e)=16*16 ^ (d+e):=by rw[show d+1+e=(d+e)+1 by omega,Nat.pow_succ];omega
  omega⟩
 alt l d h:=by rw[zm];exact h.2
 J4 l d e h hd:=⟨h.1,Nat.le_trans h.2 (Nat.pow_le_pow_right (by omega) hd)⟩
 Oz l d e h hd:=Nat.le_trans h (Nat.pow_le_pow_right (by omega) hd)
 suf:=by
  have key:∀(q:Int×Int) (d:Nat),Ze q->1<=d->1<=d/\∀(x:aG) (e:Nat),bG x+1<=16 ^ e->bG (.many x q.1 q.2)+1<=16 ^ (e+d):=λq d hq hd=>⟨hd,λx e he=>by
   have h1:=QA (x:=x) hq;have h2:16 ^ (e+1)<=16 ^ (e+d):=Nat.pow_le_pow_right (by omega) (by omega);have h3:16 ^ (e+1)=16*16 ^ e:=by rw[Nat.pow_succ];omega
   omega⟩
  exact Cw.ay (Cw.pb (Q:=Dv 1) Cw.pop λ_ b hb=>Cw.pr (λq hq=>by cases hq;exact key _ _ (by unfold Ze;decide) hb)) (Cw.ay (Cw.pb (Q:=Dv 1) Cw.pop λ_ b hb=>Cw.pr (λq hq=>by cases hq;exact key _ _ (by unfold Ze;decide) hb)) (Cw.ay (Cw.pb (Q:=Dv 1) Cw.pop λ_ b hb=>Cw.pr (λq hq=>by cases hq;exact key _ _ (by unfold Ze;decide) hb)) (Cw.ay (Cw.pb (Q:=Dv 1) Cw.pop λ_ b hb=>Cw.pb QL λr c hr=>Cw.pr (λq hq=>by cases hq;have h1:1<=b:=hb;exact key _ _ hr (by omega))) (Cw.pr (λq hq=>by cases hq)))))
theorem Lf {s:List UInt8}{f:de}(hl:s.length<=900)(h1:(43:UInt8) ∉ s)(h2:(123:UInt8) ∉ s)(hp:da s=.ok f):∀r∈f.rules,bG r.before+1<=2000/\bG r.after+1<=2000:=λr hr=>by
 obtain⟨a,b,h3,h4,h5⟩:=Jq M9 (by simp) (λm hm hi=>by
  have yU:∀c∈m,c∈s:=λc hc=>hi.subset hc;simp only[List.mem_cons,List.not_mem_nil,or_false]at hm;rcases hm with rfl|rfl
  ·exact h1 (yU 43 (by simp))
  exact h2 (yU 123 (by simp))) hp r hr
 exact⟨by omega,by omega⟩
theorem Lg {s:List UInt8}{f:de}(hl:s.length<=8)(hp:da s=.ok f):∀r∈f.rules,bG r.before+1<=2000/\bG r.after+1<=2000:=λr hr=>by
 obtain⟨a,b,h3,h4,h5⟩:=Jq Xd (by simp) (by simp) hp r hr;have h6:16 ^ a<=16 ^ 2:=Nat.pow_le_pow_right (by omega) (by omega);have h7:16 ^ b<=16 ^ 2:=Nat.pow_le_pow_right (by omega) (by omega);exact⟨by omega,by omega⟩
end Cae
namespace Go.Proofs.YtemjejfpadnljaaGreatDoor
open Go.Vc Go.Proofs Go.RowKit Cae
attribute [local irreducible] cZ ab ai aX runK ar Sl Vc.Own vc aS bu aZ
def xW:Go.Shelf.Ren:=⟨λ| 153=>28|152=>50|226=>51|227=>52|228=>53|137=>82|119=>83|224=>84|225=>85|217=>119|266=>144|n=>n,λ| 9=>9|3=>3|4=>4|5=>5|21=>21|117=>118|116=>117|0=>0|46=>133|124=>178|n=>n,λ| n=>n⟩
theorem aBw:Go.Proofs.Lays.n153 Tryz.prog xW:={
 mixed:=by kernel_rfl
 f119:=Tryz.func83.trans (congrArg some (by kernel_rfl))
 f137:=Tryz.func82.trans (congrArg some (by kernel_rfl))
 f152:=Tryz.func50.trans (congrArg some (by kernel_rfl))
 f153:=Tryz.func28.trans (congrArg some (by kernel_rfl))
 f217:=Tryz.func119.trans (congrArg some (by kernel_rfl))
 f224:=Tryz.func84.trans (congrArg some (by kernel_rfl))
 f225:=Tryz.func85.trans (congrArg some (by kernel_rfl))
 f226:=Tryz.func51.trans (congrArg some (by kernel_rfl))
 f227:=Tryz.func52.trans (congrArg some (by kernel_rfl))
 f228:=Tryz.func53.trans (congrArg some (by kernel_rfl))
 f266:=Tryz.func144.trans (congrArg some (by kernel_rfl))
 t0:=Tryz.underlying0
 a0:=Tryz.isAgg0
 z0:=Tryz.sizeOf0
 v0:=Tryz.zeroValue0
 t3:=Tryz.underlying3
 a3:=Tryz.isAgg3
 z3:=Tryz.sizeOf3
 v3:=Tryz.zeroValue3
 t4:=Tryz.underlying4
 a4:=Tryz.isAgg4
 z4:=Tryz.sizeOf4
 v4:=Tryz.zeroValue4
 t5:=Tryz.underlying5
 a5:=Tryz.isAgg5
 z5:=Tryz.sizeOf5
 v5:=Tryz.zeroValue5
 t9:=Tryz.underlying9
 a9:=Tryz.isAgg9
 z9:=Tryz.sizeOf9
 v9:=Tryz.zeroValue9
 t21:=Tryz.underlying21
 a21:=Tryz.isAgg21
 z21:=Tryz.sizeOf21
 v21:=Tryz.zeroValue21
 t46:=Tryz.underlying133
 a46:=Tryz.isAgg133
 z46:=Tryz.sizeOf133
 v46:=Tryz.zeroValue133
 t116:=Tryz.underlying117
 a116:=Tryz.isAgg117
 z116:=Tryz.sizeOf117
 t117:=Tryz.underlying118
 a117:=Tryz.isAgg118
 z117:=Tryz.sizeOf118
 v117:=Tryz.zeroValue118
 t124:=Tryz.underlying178
 a124:=Tryz.isAgg178
 z124:=Tryz.sizeOf178
 v124:=Tryz.zeroValue178 }
theorem XJ (s cs:List UInt8)(w:World)(h8:8<s.length)(hs:s.length<=1000000)(h2:2<=cs.length)(iS:cs.length<=1000000)(ZZ:∀(j:Nat) b,cs[j]?=some b->b.toNat<128) :
  ar Tryz.prog 28 [str s,str cs] w λr w'=>r=.int .i64 (Lib.indexAny s cs)/\Below w.heap.size w w':=by
 refine dM Tryz.func28 (by kernel_rfl) (by kernel_rfl) ?_;have hz:=Go.zero_of_info (P:=Tryz.prog) (t:=xW.t 116) (v:=.agg (Array.replicate 256 (.bool false))) (n:=256) (by kernel_rfl);refine Calls.mono (Any.strings_IndexAny_long aBw hz.1 hz.2 ⟨s.toArray⟩ ⟨cs.toArray⟩ w (by show 2<=cs.toArray.size;simp;omega) (by show 8<s.toArray.size;simp;omega) (by show s.toArray.size<_;simp;omega) (by show cs.toArray.size<_;simp;omega) ZZ) ?_
 rintro e w' ⟨rfl,rfl⟩;refine⟨_,rfl,rfl,?_⟩;exact((Below.refl w.heap.size w).alloc (Nat.le_refl _) _).alloc (by simp) _
theorem W5 (s:List UInt8)(w:World)(h8:8<s.length)(hs:s.length<=1000000)(h:(43:UInt8)∈s\/(123:UInt8)∈s) :
  ar Tryz.prog 9 [str s,str [123,43]] w λr w'=>r=.bool true/\Below w.heap.size w w':=by
 have yX:0<=Lib.indexAny s [123,43]:=by
  rcases h with h|h
  ·exact Cae.u7 s _ 43 h (by decide)
  exact Cae.u7 s _ 123 h (by decide)
 refine aE Tryz.func9 rfl (by kernel_rfl) [4] rfl ?_;push_cast -dsimp(maxSteps:=9^7) [Tryz.ntmps9];refine aA (XJ s [123,43] w h8 hs (by decide) (by decide) ?_) ?_
 ·intro j b hj;match j,hj with
  | 0,e=>cases e;decide
  | 1,e=>cases e;decide
 rintro _ w1 ⟨rfl,fe⟩;push_cast -dsimp[yX];exact fe
theorem YK {s:List UInt8}{f:de}(hs:s.length<=1000000)(h:da s=.ok f):∀r∈f.rules,cT r.before/\cT r.after:=by
 unfold da at h;split at h
 ·cases h
 rename_i l hl;have LA:=ZC hs hl;split at h
 ·cases h
 rename_i f' l' hf;split at h
 ·cases h;exact(aB3 _ _ _ LA.txt hf).1
 cases h
theorem Vy (l l':List Rg)(hl:l.length<10000000)(X X':Nat->Prop)(v v':Value)(w:World)(hv:Sl X 2 (En bA) w v l)(OU:Sl X' 2 (En bA) w v' l') :
  ar Tryz.prog 172 [v,v'] w λr w'=>r=.bool (decide (l=l'))/\Below w.heap.size w w':=by
 obtain⟨a,c,rfl,hc⟩:=hv.shape;obtain⟨a',c',rfl,hc'⟩:=OU.shape;refine aE Tryz.func172 rfl (by kernel_rfl) [4] rfl ?_;push_cast -dsimp(maxSteps:=9^7) [Tryz.ntmps172];refine⟨λcY=>⟨?_,Below.refl _ _⟩,λhe=>?_⟩
 ·rw[decide_eq_false];intro h;subst h;omega
 have OD:l.length=l'.length:=by omega
 refine aK [4,5,13,14,15,16,17,18,19,20,21,22,23,24,25] (λz wx=>∃(i:Nat),z 13=.int .i64 i/\i<=l.length/\l.take i=l'.take i/\Below w.heap.size w wx) (λz _=>l.length-(intOf (z 13)).toNat) ?_ ?_
 ·exact⟨0,rfl,Nat.zero_le _,rfl,Below.refl _ _⟩
 intro z wx hI;obtain⟨i,GF,hi,bO,hb⟩:=hI;push_cast -dsimp[GF];refine⟨λao=>?_,λeY=>?_⟩
 ·obtain⟨x,hx,mR,hd,ht⟩:=ae (l:=l) (i:=i) (by omega);obtain⟨b,o,rfl,hX,aP⟩:=(hv.below hb).get hx;obtain⟨x',G2,aKz,hd',OR⟩:=ae (l:=l') (i:=i) (by omega);obtain⟨b',o',rfl,hX',sq⟩:=(OU.below hb).get G2;refine b8 (λw'=>∀a,w'.cell? a=wx.cell? a) mixed (by kernel_rfl) (λ_=>rfl) ?_;have g0:∀bB:World,(∀a,bB.cell? a=wx.cell? a)->aB bB ⟨b,o+i*2,none⟩ 0 2=some [.int .i64 x.1,.int .i64 x.2]:=λbB hC=>aj (bA x) 0 (λj u hu=>by rw[hC];simpa using aP j u hu);have g0':∀bB:World,(∀a,bB.cell? a=wx.cell? a)->aB bB ⟨b',o'+i*2,none⟩ 0 2=some [.int .i64 x'.1,.int .i64 x'.2]:=λbB hC=>aj (bA x') 0 (λj u hu=>by rw[hC];simpa using sq j u hu);have d0:=g0 wx.drew (λ_=>rfl);have d0':=g0' wx.drew (λ_=>rfl);push_cast -dsimp[d0,d0'];have aNO:((x.1=x'.1/\x.2=x'.2))↔x=x':=by
   cases x;cases x';simp only[Prod.mk.injEq]
  rw[aNO];refine⟨⟨by omega,by omega⟩,λbB hC=>by rw[g0 bB hC];exact rfl,⟨by omega,by omega⟩,λbB hC=>by rw[g0' bB hC];exact rfl,λcY=>?_,λheq=>?_⟩
  ·refine⟨?_,hb.drew⟩;rw[decide_eq_false];intro h;subst h;rw[hx]at G2;cases G2;exact cY rfl
  have heq:x=x':=Classical.byContradiction λh=>heq h;exact⟨⟨by omega,by omega⟩,⟨i+1,rfl,by omega,by rw[ht,OR,bO,heq],hb.drew⟩,by rw[GF];simp only[intOf];omega⟩
 refine⟨?_,hb⟩;rw[List.take_of_length_le (by omega),List.take_of_length_le (by omega)]at bO;rw[decide_eq_true bO]
theorem XM {L:VP}{other:Prop}(ty x)(p):tG 8 ty x L other p=L (.iface ty x):=(rfl)
theorem NZ:(Tryz.prog.underlying 196).isSome=true:=by kernel_rfl
attribute [push_cast] NZ XM
def LP (e:Int)(ce:List PanicEntry):Prop:=ce=[{ v:=.iface 196 (.agg #[.int .i64 e]),recovered:=false }]
def MkB (B mb nb:Nat)(back:Bool)(X:Nat->Prop)(w:World)(c:aD)(sv iv:Value)(us:List SV):Prop:=aM w mb 200 [sv,iv,.map (some nb),.bool back]/\Vc.Own B 139 1 jb w sv us/\Vc.Own B 164 3 bR w iv c.ins/\us.length=c.sets.length /\
  sv.ownBlock≠some mb/\iv.ownBlock≠some mb/\(∀g,sv.ownBlock=some g->iv.ownBlock≠some g) /\
  ∀(i:Nat) (u:SV) (s:List Rg),us[i]?=some u->c.sets[i]?=some s->Sl (λb=>X b\/b=mb\/sv.ownBlock=some b\/iv.ownBlock=some b) 2 (En bA) w u.v s
structure Mk (B mb nb:Nat)(back:Bool)(X:Nat->Prop)(w:World)(c:aD):Prop where
 st:∃sv iv us,MkB B mb nb back X w c sv iv us
 lt:mb<B
 le:B<=w.heap.size
 few:∀s∈c.sets,aO (-2) s=true
 num:c.ins.length<=2000
 sum:c.sets.length<=c.ins.length+1
theorem Mk.below {B mb nb:Nat}{back:Bool}{X:Nat->Prop}{w w':World}{c:aD}(h:Mk B mb nb back X w c)(hb:Below w.heap.size w w'):Mk B mb nb back X w' c:=by
 obtain⟨sv,iv,us,hB,xO,jT,uX,fx,gZ,lW,qE⟩:=h.st;exact⟨⟨sv,iv,us,hB.below hb hB.lt,xO.below hb,jT.below hb,uX,fx,gZ,lW,λi u s h1 h2=>(qE i u s h1 h2).below hb⟩,h.lt,Nat.le_trans h.le hb.size,h.few,h.num,h.sum⟩
def Mw (w:World)(mb i:Nat):Prop:=i=mb\/∃o v,w.cell? ⟨mb,o,none⟩=some v/\v.ownBlock=some i
structure gN (mb:Nat)(w w':World):Prop where
 kept:Kept (Mw w mb) w w'
 own:∀i,Mw w' mb i->Mw w mb i\/w.heap.size<=i
theorem gN.trans {mb:Nat}{a b c:World}(h:gN mb a b)(k:gN mb b c):gN mb a c :=
 ⟨h.kept.trans k.kept (λi hi hm=>(h.own i hm).resolve_right (by omega)),λi hi=>by
  rcases k.own i hi with h1|h1
  ·exact h.own i h1
  have:=h.kept.size;exact .inr (by omega)⟩
theorem gN.below {mb:Nat}{w w':World}(hb:Below w.heap.size w w')(ao:mb<w.heap.size):gN mb w w' :=
 ⟨Kept.aN hb (λi h1 h2=>by omega),λi hi=>by
  rcases hi with hi|⟨o,v,h1,h2⟩
  ·exact .inl (.inl hi)
  refine .inl (.inr ⟨o,v,?_,h2⟩);rw[<-hb.cell (p:=⟨mb,o,none⟩) ao];exact h1⟩
theorem gN.refl {mb:Nat}{w:World}(ao:mb<w.heap.size):gN mb w w:=gN.below (Below.refl _ _) ao
theorem aB0 {w:World}{mb i:Nat}{e:TypeId}{a b c d:Value}(h:aM w mb e [a,b,c,d]):Mw w mb i↔i=mb\/a.ownBlock=some i\/b.ownBlock=some i\/c.ownBlock=some i\/d.ownBlock=some i:=by
 unfold Mw;constructor
 ·rintro(hi|⟨o,v,h1,h2⟩)
  ·exact .inl hi
  have hc:[a,b,c,d][o]?=some v:=by
   have hB:w.heap[mb]?=_:=h;simp only[World.cell?,hB]at h1;simpa using h1
  match o,hc with
  | 0,hc=>cases hc;exact .inr (.inl h2)
  | 1,hc=>cases hc;exact .inr (.inr (.inl h2))
  | 2,hc=>cases hc;exact .inr (.inr (.inr (.inl h2)))
  | 3,hc=>cases hc;exact .inr (.inr (.inr (.inr h2)))
  | _+4,hc=>simp at hc
 rintro(hi|hi|hi|hi|hi)
 ·exact .inl hi
 ·exact .inr ⟨0,a,h.cell rfl,hi⟩
 ·exact .inr ⟨1,b,h.cell rfl,hi⟩
 ·exact .inr ⟨2,c,h.cell rfl,hi⟩
 exact .inr ⟨3,d,h.cell rfl,hi⟩
theorem eQ {w:World}{mb i nb:Nat}{e:TypeId}{a b:Value}{back:Bool}(h:aM w mb e [a,b,.map (some nb),.bool back]):Mw w mb i↔i=mb\/a.ownBlock=some i\/b.ownBlock=some i:=by
 rw[aB0 h];simp[Value.ownBlock]
theorem Mk.mw {B mb nb:Nat}{back:Bool}{X:Nat->Prop}{w:World}{c:aD}(h:Mk B mb nb back X w c){i:Nat}(hi:Mw w mb i):(i=mb\/B<=i)/\i<w.heap.size:=by
 obtain⟨sv,iv,us,hB,xO,jT,_⟩:=h.st;have ao:=h.lt;have hle:=h.le;rcases(eQ hB).1 hi with hi|hi|hi
 ·exact⟨.inl hi,by omega⟩
 ·have:=xO.block i hi;exact⟨.inr this.1,this.2⟩
 have:=jT.block i hi;exact⟨.inr this.1,this.2⟩
theorem gN.out {B mb nb:Nat}{back:Bool}{X:Nat->Prop}{w w':World}{c:aD}(h:gN mb w w')(hM:Mk B mb nb back X w c):Kept (λi=>i=mb\/B<=i) w w':=h.kept.weaken (λi _ hi=>(hM.mw hi).1)
theorem ox {B mb nb:Nat}{back:Bool}{X:Nat->Prop}{w:World}{c:aD}(h:Mk B mb nb back X w c):ar Tryz.prog 173 [.pointer (some ⟨mb,0,none⟩)] w λr w'=>r=.int .i64 c.ins.length/\w'=w:=by
 obtain⟨sv,iv,us,hB,xO,jT,uX,fx,gZ,lW,qE⟩:=h.st;obtain⟨ia,ic,rfl⟩:=jT.slice;refine aE Tryz.func173 rfl (by kernel_rfl) [2] rfl ?_;push_cast -dsimp(maxSteps:=9^7) [Tryz.ntmps173];have f1:w.cell? ⟨mb,1,none⟩=some (.slice ia c.ins.length ic):=hB.cell rfl;push_cast -dsimp[f1]
def aD.push (c:aD)(x:I3):aD:=⟨c.sets,c.ins++[x]⟩
theorem tn {B mb nb:Nat}{back:Bool}{X:Nat->Prop}{w:World}{c:aD}(h:Mk B mb nb back X w c)(q8:c.sets.length<=c.ins.length+1)(x:I3) :
  yE Tryz.prog 112 [.pointer (some ⟨mb,0,none⟩),.agg #[.int .i64 x.op,.int .i64 x.a,.int .i64 x.b]] w
   (λr w'=>c.ins.length<2000/\r=.int .i64 c.ins.length/\Mk B mb nb back X w' (aD.push c x)/\gN mb w w') (λce w'=>c.ins.length=2000/\LP 4 ce/\gN mb w w'):=by
 obtain⟨sv,iv,us,hB,xO,jT,uX,fx,gZ,lW,qE⟩:=h.st;obtain⟨sa,sc,rfl⟩:=xO.slice;obtain⟨ia,ic,rfl⟩:=jT.slice;have hle:=h.le;have ao:=h.lt;have Wu:=h.num;refine bI Tryz.func112 rfl (by kernel_rfl) [.tmp 4] rfl ?_;push_cast -dsimp(maxSteps:=9^7) [Tryz.ntmps112];refine aR ?_;intro w1 aU;have aU:mj w w1 164 [.int .i64 x.op,.int .i64 x.a,.int .i64 x.b]:=aU;have z1:=aU.size;have T1:=aU.aL;have B1:=hB.below aU.below hB.lt;have f1:w1.cell? ⟨mb,1,none⟩=some (.slice ia c.ins.length ic):=B1.cell rfl;have k1:gN mb w w1:=gN.below aU.below (by omega);push_cast -dsimp[f1];refine⟨λaIx=>?_,λaIx=>?_⟩
 ·refine YJ ?_;push_cast -dsimp;exact⟨by omega,rfl,k1⟩
 have B1d:=B1.drew;have T1d:=T1.drew;refine dV (λw'=>aM w' mb 200 [.slice sa us.length sc,.slice ia c.ins.length ic,.map (some nb),.bool back]/\aM w' w.heap.size 164 [.int .i64 x.op,.int .i64 x.a,.int .i64 x.b]) mixed (by kernel_rfl) (by simp) ⟨B1d,T1d⟩ ?_;have g1:w1.drew.cell? ⟨mb,1,none⟩=some (.slice ia c.ins.length ic):=B1d.cell rfl;have g2:aB w1.drew ⟨w.heap.size,0,none⟩ 0 3=some [.int .i64 x.op,.int .i64 x.a,.int .i64 x.b]:=T1d.aB;push_cast -dsimp[g1,g2];refine⟨λbB h=>by rw[h.1.cell (o:=1) rfl];exact rfl,λbB h=>by rw[show aB bB ⟨w.heap.size,0,none⟩ 0 3=some [.int .i64 x.op,.int .i64 x.a,.int .i64 x.b] from h.2.aB];exact rfl,?_⟩
 refine cH ep rfl rfl (by omega) ?_;intro wa fy;have za:wa.heap.size=w1.heap.size+1:=fy.size;have Ba:=B1d.below fy.below B1d.lt;have Ta:=T1d.below fy.below T1d.lt;refine⟨⟨Ba,Ta⟩,?_⟩;have aMM:Vc.Own B 164 3 bR w1.drew (.slice ia c.ins.length ic) c.ins:=(jT.new aU).aJ ((Kept.refl (λ_=>False) w1).drew) (λ_ _ h=>h);have hOa:=aMM.new fy;push_cast -dsimp;refine aW (base:=B) [x] (enc:=bR) ep hOa (by rfl) (λj u hu=>by simpa[bR] using fy.cell hu) (by simp[bR,Value.oneCell']) (by simp only[List.length_cons,List.length_nil];omega) (by show B<=wa.heap.size;omega) ?_
 intro vb wb fU CQ mO;have td:∀g,(Value.slice ia c.ins.length ic).ownBlock=some g->B<=g/\g<w.heap.size:=λg hg=>jT.block g hg;have kb:Kept (λj=>(Value.slice ia c.ins.length ic).ownBlock=some j) w1.drew wb:=(Kept.new fy).trans (Kept.grown CQ (λ_ h=>h)) (λ_ _ h=>h);have Bb:=B1d.kept kb (λh=>gZ h);have Tb:=T1d.kept kb (λh=>by have:=td _ h;omega);refine⟨⟨Bb,Tb⟩,?_⟩;obtain⟨ib,icb,rfl⟩:=fU.slice;push_cast -dsimp;refine aC Bb (by simp) rfl ?_;intro wc jW;have zc:=jW.size;have Bc:aM wc mb 200 [.slice sa us.length sc,.slice ib (c.ins++[x]).length icb,.map (some nb),.bool back]:=jW.aL;have kd9:Kept (λ_=>False) w1 w1.drew:=(Kept.refl _ _).drew;have kc:Kept (λj=>(Value.slice ia c.ins.length ic).ownBlock=some j\/j=mb) w1 wc:=((kd9.weaken (λ_ _ h=>h.elim)).trans kb (λ_ _ h=>.inl h)).trans jW.kept (λ_ _ h=>.inr h);have Qp:=fU.aJ jW.kept (λg hg hh=>by have:=(fU.block g hg).1;have h':g=mb:=hh;omega);have Qo:=(xO.new aU).aJ kc (λg hg hh=>by
  rcases hh with hh|hh
  ·exact lW g hg hh
  exact fx (by rw[<-hh];exact hg))
 have kw:gN mb w wc:=k1.trans ⟨kc.weaken (λi _ hi=>by
  rw[eQ B1];rcases hi with hi|hi
  ·exact .inr (.inr hi)
  exact .inl hi),λi hi=>by
  rw[eQ Bc]at hi;rw[eQ B1];rcases hi with hi|hi|hi
  ·exact .inl (.inl hi)
  ·exact .inl (.inr (.inl hi))
  rcases mO i hi with h1|h1
  ·exact .inl (.inr (.inr h1))
  have:wa.heap.size<=i:=h1;exact .inr (by omega)⟩
 have Ct:Mk B mb nb back X wc (aD.push c x):=by
  refine⟨⟨_,_,_,Bc,Qo,Qp,uX,fx,λhh=>by have:=(Qp.block _ hh).1;omega,qp Qo Qp (by decide),λi u t h1 h2=>?_⟩,h.lt,by have:=kw.kept.size;omega,h.few,by simp[aD.push];omega,by simp[aD.push];omega⟩;refine((qE i u t h1 h2).below aU.below).Od (λ_=>by simp[bA]) kc (λi hi=>by
   rcases hi with hi|hi
   ·exact .inr (.inr (.inr hi))
   exact .inr (.inl hi)) (λb hb=>?_)
  rcases hb with hb|hb|hb|hb
  ·exact .inl (.inl hb)
  ·exact .inl (.inr (.inl hb))
  ·exact .inl (.inr (.inr (.inl hb)))
  rcases mO b hb with hh|hh
  ·exact .inl (.inr (.inr (.inr hh)))
  exact .inr (by omega)
 refine⟨trivial,?_⟩;have c1:wc.cell? ⟨mb,1,none⟩=some (.slice ib (c.ins++[x]).length icb):=Bc.cell rfl;push_cast -dsimp[c1];refine⟨by rw[List.length_append];simp only[List.length_cons,List.length_nil];omega,by omega,?_,Ct,kw⟩;congr 1;rw[List.length_append];simp only[List.length_cons,List.length_nil];omega
theorem MkB.below {B mb nb:Nat}{back:Bool}{X:Nat->Prop}{w w':World}{c:aD}{sv iv:Value}{us:List SV}(h:MkB B mb nb back X w c sv iv us)(hb:Below w.heap.size w w'):MkB B mb nb back X w' c sv iv us:=by
 obtain⟨hB,xO,jT,uX,fx,gZ,lW,qE⟩:=h;exact⟨hB.below hb hB.lt,xO.below hb,jT.below hb,uX,fx,gZ,lW,λi u s h1 h2=>(qE i u s h1 h2).below hb⟩
theorem UH (t s:List Rg)(ht:t.length<10000000)(hs:s.length<10000000)(X X':Nat->Prop)(v u:Value)(sb:Nat)(w:World)(hv:Sl X 2 (En bA) w v t)(hu:Sl X' 2 (En bA) w u s)(hc:w.cell? ⟨sb,0,none⟩=some u) :
  ar Tryz.prog 171 [v,.pointer (some ⟨sb,0,none⟩)] w λr w'=>r=.bool (s == t)/\Below w.heap.size w w':=by
 obtain⟨a,c,rfl,hcc⟩:=hv.shape;obtain⟨a',c',rfl,aTK⟩:=hu.shape;refine aE Tryz.func171 rfl (by kernel_rfl) [3] rfl ?_;push_cast -dsimp(maxSteps:=9^7) [Tryz.ntmps171];push_cast -dsimp[hc];refine aA (Vy s t hs X' X _ _ w hu hv) ?_;rintro _ w1 ⟨rfl,hb⟩;push_cast -dsimp;refine⟨?_,hb⟩;congr 1;by_cases h:s=t
 ·subst h;simp
 rw[decide_eq_false h,beq_eq_false_iff_ne.2 h]
theorem TH (s:List Rg)(hs:s.length<10000000)(l:List (List Rg))(hl:l.length<1000000000)(hls:∀t∈l,t.length<10000000)(X X':Nat->Prop)(v u:Value)(sb:Nat)(w:World)(hv:dq X w v l)(hu:Sl X' 2 (En bA) w u s)(hc:w.cell? ⟨sb,0,none⟩=some u) :
  ar Tryz.prog 146 [v,.func (.func 171) #[] #[.pointer (some ⟨sb,0,none⟩)]] w λr w'=>((∃i:Nat,r=.int .i64 i/\l[i]?=some s)\/r=.int .i64 (-1))/\Below w.heap.size w w':=by
 obtain⟨a,c,rfl,hcc⟩:=hv.shape;refine aE Tryz.func146 rfl (by kernel_rfl) [4] rfl ?_;push_cast -dsimp(maxSteps:=9^7) [Tryz.ntmps146];refine aK [4,5,8,9,10,11,12,13,14,15,16,17,18] (λz wx=>∃(i:Nat),z 8=.int .i64 i/\i<=l.length/\Below w.heap.size w wx) (λz _=>l.length-(intOf (z 8)).toNat) ?_ ?_
 ·exact⟨0,rfl,Nat.zero_le _,Below.refl _ _⟩
 intro z wx hI;obtain⟨i,h8,hi,hb⟩:=hI;push_cast -dsimp[h8];refine⟨λao=>?_,λeY=>?_⟩
 ·obtain⟨x,hx,mR,hd,ht⟩:=ae (l:=l) (i:=i) (by omega);obtain⟨b,o,cs,ha,hX,hk,aP,u0,rfl,hu0⟩:=Sl.yL (hv.below hb) hx;subst ha;have c0:wx.cell? ⟨b,o+i,none⟩=some u0:=by simpa using aP 0 u0 rfl
  obtain⟨a0,k0,rfl,hk0⟩:=hu0.shape;push_cast -dsimp[c0,Nat.mul_one];refine⟨⟨by omega,by omega⟩,?_⟩;refine aA (UH x s (hls x mR) hs X X' _ _ sb wx hu0 (hu.below hb) ((hb.cell (World.block_lt_of_cell? w _ hc)).trans hc)) ?_;rintro _ w1 ⟨rfl,fe⟩;have n0:=hb.trans (fe.mono hb.size);cases cJ:(s == x) with
  | true =>
   have oI:s=x:=eq_of_beq cJ;subst oI;push_cast -dsimp;exact⟨.inl ⟨i,rfl,hx⟩,n0⟩
  | false =>
   push_cast -dsimp;exact⟨⟨by omega,by omega⟩,⟨i+1,rfl,by omega,n0⟩,by rw[h8];simp only[intOf];omega⟩
 exact⟨.inr trivial,hb⟩
structure Ext (c c':aD):Prop where
 ins:∀(k:Nat) (x:I3),c.ins[k]?=some x->c'.ins[k]?=some x
 sets:∀(k:Nat) (s:List Rg),c.sets[k]?=some s->c'.sets[k]?=some s
 sum:c'.sets.length+c.ins.length<=c.sets.length+c'.ins.length
theorem Ext.refl (c:aD):Ext c c:=⟨λ_ _ h=>h,λ_ _ h=>h,Nat.le_refl _⟩
theorem Ext.trans {a b c:aD}(h:Ext a b)(k:Ext b c):Ext a c:=⟨λi x hx=>k.ins i x (h.ins i x hx),λi x hx=>k.sets i x (h.sets i x hx),by have:=h.sum;have:=k.sum;omega⟩
theorem Ext.push (c:aD)(x:I3):Ext c (aD.push c x):=⟨λk y h=>by
 show (c.ins++[x])[k]?=some y
 rw[List.getElem?_append_left (List.getElem?_eq_some_iff.1 h).1];exact h,λ_ _ h=>h,by simp[aD.push]⟩
theorem Og {B mb nb:Nat}{back:Bool}{X:Nat->Prop}{w:World}{c:aD}{sv iv:Value}{us:List SV}(h:Mk B mb nb back X w c)(hM:MkB B mb nb back X w c sv iv us)(q8:c.sets.length<=c.ins.length)(s:List Rg)(hr:aO (-2) s=true)(v:Value)
  (hv:Sl (λb=>X b\/b=mb\/sv.ownBlock=some b\/iv.ownBlock=some b) 2 (En bA) w v s) :
  yE Tryz.prog 135 [.pointer (some ⟨mb,0,none⟩),v] w
   (λr w'=>c.ins.length<2000/\(∃(c':aD) (i:Nat),Mk B mb nb back X w' c'/\Ext c c'/\c'.ins.length=c.ins.length+1/\c'.ins[c.ins.length]?=some ⟨1,(i:Int),0⟩/\c'.sets[i]?=some s)/\gN mb w w') (λce w'=>c.ins.length=2000/\LP 4 ce/\gN mb w w'):=by
 obtain⟨hB,xO,jT,uX,fx,gZ,lW,qE⟩:=hM;obtain⟨sa,sc,rfl⟩:=xO.slice;obtain⟨ia,ic,rfl⟩:=jT.slice;obtain⟨va,vc,rfl,hvc⟩:=hv.shape;have hle:=h.le;have ao:=h.lt;have Wu:=h.num;have pD:=eI hr;refine bI Tryz.func135 rfl (by kernel_rfl) [] rfl ?_;push_cast -dsimp(maxSteps:=9^7) [Tryz.ntmps135];refine aR ?_;intro w1 aU;have aU:mj w w1 139 [.slice va s.length vc]:=aU;have z1:=aU.size;have T1:=aU.aL;have B1:=hB.below aU.below hB.lt;have f0:w1.cell? ⟨mb,0,none⟩=some (.slice sa us.length sc):=B1.cell rfl;have t0:w1.cell? ⟨w.heap.size,0,none⟩=some (.slice va s.length vc):=T1.cell rfl;push_cast -dsimp[f0];have hSV:dq (λ_=>False) w1 (.slice sa us.length sc) c.sets:=dq.rU uX ((xO.new aU).sl.weaken (λ_ h=>h.elim)) (λi u s h1 h2=>((qE i u s h1 h2).below aU.below).weaken (λ_ h=>h.elim));refine aA (TH s (by omega) c.sets (by omega) (λx hx=>by have:=eI (h.few x hx);omega) (λ_=>False) (λ_=>False) (.slice sa us.length sc) (.slice va s.length vc) w.heap.size w1 hSV ((hv.below aU.below).weaken (λ_ h=>h.elim)) t0) ?_;rintro r w2 ⟨uV,dh⟩;have z2:=dh.size;have iP:=aU.below.trans (dh.mono (by omega));have k2:gN mb w w2:=gN.below iP (by omega);rcases uV with ⟨i,rfl,hi⟩|rfl
 ·push_cast -dsimp;refine⟨λh0=>by omega,λh0=>?_⟩;refine aF (tn (h.below iP) (by omega) ⟨1,(i:Int),0⟩) ?_ ?_
  ·rintro _ w3 ⟨hl,rfl,GI,k3⟩;push_cast -dsimp;exact⟨hl,⟨_,i,GI,Ext.push c _,by simp[aD.push],by show (c.ins++[_])[c.ins.length]?=_;rw[List.getElem?_append_right (Nat.le_refl _),Nat.sub_self];rfl,hi⟩,k2.trans k3⟩
  rintro ce w3 ⟨hl,ht,k3⟩;push_cast -dsimp;exact⟨hl,ht,k2.trans k3⟩
 push_cast -dsimp;have B2:=B1.below dh B1.lt;have T2:=T1.below dh T1.lt;have B2d:=B2.drew;have T2d:=T2.drew;refine dV (λw'=>aM w' mb 200 [.slice sa us.length sc,.slice ia c.ins.length ic,.map (some nb),.bool back]/\aM w' w.heap.size 139 [.slice va s.length vc]) mixed (by kernel_rfl) (by simp) ⟨B2d,T2d⟩ ?_;have g0:w2.drew.cell? ⟨mb,0,none⟩=some (.slice sa us.length sc):=B2d.cell rfl;have g1:w2.drew.cell? ⟨w.heap.size,0,none⟩=some (.slice va s.length vc):=T2d.cell rfl;push_cast -dsimp[g0,g1];refine⟨λbB h=>by rw[h.1.cell (o:=0) rfl];exact rfl,λbB h=>by rw[h.2.cell (o:=0) rfl];exact rfl,?_⟩;refine cH nD rfl rfl (by omega) ?_;intro wa fy;have za:wa.heap.size=w2.heap.size+1:=fy.size;have Ba:=B2d.below fy.below B2d.lt;have Ta:=T2d.below fy.below T2d.lt;refine⟨⟨Ba,Ta⟩,?_⟩;have aMK:Vc.Own B 139 1 jb w2.drew (.slice sa us.length sc) us:=((xO.new aU).below dh).aJ ((Kept.refl (λ_=>False) w2).drew) (λ_ _ h=>h);have aMJ:=aMK.new fy;push_cast -dsimp;refine aW (base:=B) [(⟨va,s.length,vc⟩:SV)] (enc:=jb) nD aMJ (by rfl) (λj u hu=>by simpa[jb,SV.v] using fy.cell hu) vr (by simp only[List.length_cons,List.length_nil];omega) (by show B<=wa.heap.size;omega) ?_
 intro vb wb fU CQ mO;have tE:∀g,(Value.slice sa us.length sc).ownBlock=some g->B<=g/\g<w.heap.size:=λg hg=>xO.block g hg;have kb:Kept (λj=>(Value.slice sa us.length sc).ownBlock=some j) w2.drew wb:=(Kept.new fy).trans (Kept.grown CQ (λ_ h=>h)) (λ_ _ h=>h);have Bb:=B2d.kept kb (λh=>fx h);have Tb:=T2d.kept kb (λh=>by have:=tE _ h;omega);refine⟨⟨Bb,Tb⟩,?_⟩;have zb:w2.heap.size+1<=wb.heap.size:=by have:=CQ.size;omega
 obtain⟨ib,icb,rfl⟩:=fU.slice;push_cast -dsimp;refine aC Bb (by simp) rfl ?_;intro wc jW;have zc:=jW.size;have Bc:aM wc mb 200 [.slice ib (us++[(⟨va,s.length,vc⟩:SV)]).length icb,.slice ia c.ins.length ic,.map (some nb),.bool back]:=jW.aL;have c0:wc.cell? ⟨mb,0,none⟩=some (.slice ib (us++[(⟨va,s.length,vc⟩:SV)]).length icb):=Bc.cell rfl;have kd2:Kept (λ_=>False) w2 w2.drew:=(Kept.refl _ _).drew;have kc:Kept (λj=>(Value.slice sa us.length sc).ownBlock=some j\/j=mb) w2 wc:=((kd2.weaken (λ_ _ h=>h.elim)).trans kb (λ_ _ h=>.inl h)).trans jW.kept (λ_ _ h=>.inr h);have hlu:(us++[(⟨va,s.length,vc⟩:SV)]).length=c.sets.length+1:=by simp[uX]
 have kw:gN mb w wc:=k2.trans ⟨kc.weaken (λi _ hi=>by
  rw[eQ B2];rcases hi with hi|hi
  ·exact .inr (.inl hi)
  exact .inl hi),λi hi=>by
  rw[eQ Bc]at hi;rw[eQ B2];rcases hi with hi|hi|hi
  ·exact .inl (.inl hi)
  ·rcases mO i hi with h1|h1
   ·exact .inl (.inr (.inl h1))
   have:wa.heap.size<=i:=h1;exact .inr (by omega)
  exact .inl (.inr (.inr hi))⟩
 have Qo:=fU.aJ jW.kept (λg hg hh=>by have:=(fU.block g hg).1;have h':g=mb:=hh;omega);have Qp:Vc.Own B 164 3 bR wc (.slice ia c.ins.length ic) c.ins:=(jT.below iP).aJ kc (λg hg hh=>by
  rcases hh with hh|hh
  ·exact lW g hh hg
  exact gZ (by rw[<-hh];exact hg))
 have yU:∀b,(X b\/b=mb\/(Value.slice ib (us++[(⟨va,s.length,vc⟩:SV)]).length icb).ownBlock=some b\/(Value.slice ia c.ins.length ic).ownBlock=some b)->(X b\/b=mb\/(Value.slice sa us.length sc).ownBlock=some b\/(Value.slice ia c.ins.length ic).ownBlock=some b)\/w2.heap.size<=b:=λb hb=>by
  rcases hb with hb|hb|hb|hb
  ·exact .inl (.inl hb)
  ·exact .inl (.inr (.inl hb))
  ·rcases mO b hb with h1|h1
   ·exact .inl (.inr (.inr (.inl h1)))
   have:wa.heap.size<=b:=h1;exact .inr (by omega)
  exact .inl (.inr (.inr (.inr hb)))
 have hkc:∀i,((Value.slice sa us.length sc).ownBlock=some i\/i=mb)->(X i\/i=mb\/(Value.slice sa us.length sc).ownBlock=some i\/(Value.slice ia c.ins.length ic).ownBlock=some i):=λi hi=>by
  rcases hi with hi|hi
  ·exact .inr (.inr (.inl hi))
  exact .inr (.inl hi)
 have Mc:Mk B mb nb back X wc ⟨c.sets++[s],c.ins⟩:=by
  refine⟨⟨_,_,_,Bc,Qo,Qp,by simp[uX],λhh=>by have:=(Qo.block _ hh).1;omega,gZ,qp Qo Qp (by decide),λi u x h1 h2=>?_⟩,h.lt,by have:=kw.kept.size;omega,λx hx=>?_,h.num,by simp only[List.length_append,List.length_cons,List.length_nil];omega⟩
  ·have qX:i<(us++[(⟨va,s.length,vc⟩:SV)]).length:=(List.getElem?_eq_some_iff.1 h1).1;by_cases hi:i<us.length
   ·rw[List.getElem?_append_left hi]at h1;rw[List.getElem?_append_left (by omega)]at h2;exact((qE i u x h1 h2).below iP).Od (λ_=>by simp[bA]) kc hkc yU
   have e:i=us.length:=by rw[List.length_append,List.length_cons,List.length_nil]at qX;omega
   subst e;rw[List.getElem?_append_right (Nat.le_refl _),Nat.sub_self]at h1;rw[uX,List.getElem?_append_right (Nat.le_refl _),Nat.sub_self]at h2;simp at h1 h2;subst h1;subst h2;exact(hv.below iP).Od (λ_=>by simp[bA]) kc hkc yU
  rw[List.mem_append,List.mem_singleton]at hx;rcases hx with hx|rfl
  ·exact h.few x hx
  exact hr
 refine⟨trivial,?_⟩;push_cast -dsimp[c0];have hk:(((us++[(⟨va,s.length,vc⟩:SV)]).length:Nat):Int)-1=(c.sets.length:Nat):=by rw[hlu];omega
 refine⟨by omega,?_⟩;rw[hk];refine aF (tn Mc (by simp only[List.length_append,List.length_cons,List.length_nil];omega) ⟨1,(c.sets.length:Int),0⟩) ?_ ?_
 ·rintro _ w3 ⟨hl,rfl,GI,k3⟩;push_cast -dsimp;refine⟨hl,⟨_,c.sets.length,GI,⟨λk y hy=>?_,λk y hy=>?_,by simp[aD.push];omega⟩,by simp[aD.push],by show (c.ins++[_])[c.ins.length]?=_;rw[List.getElem?_append_right (Nat.le_refl _),Nat.sub_self];rfl,by show (c.sets++[s])[c.sets.length]?=_;rw[List.getElem?_append_right (Nat.le_refl _),Nat.sub_self];rfl⟩,kw.trans k3⟩
  ·show (c.ins++[_])[k]?=some y
   rw[List.getElem?_append_left (List.getElem?_eq_some_iff.1 hy).1];exact hy
  show (c.sets++[s])[k]?=some y
  rw[List.getElem?_append_left (List.getElem?_eq_some_iff.1 hy).1];exact hy
 rintro ce w3 ⟨hl,ht,k3⟩;push_cast -dsimp;exact⟨hl,ht,kw.trans k3⟩
end Go.Proofs.YtemjejfpadnljaaGreatDoor
