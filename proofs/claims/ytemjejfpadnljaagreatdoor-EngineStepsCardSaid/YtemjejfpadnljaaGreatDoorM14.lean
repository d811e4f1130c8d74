/- Texts of this claim, merged: Ppr, Pr1, Pr2, CAny, Pcod, Pcod2, Pcod3, Plim, Plim2, EqR, Cd1, Cd2. -/
import Derived.Test.YtemjejfpadnljaaGreatDoorM12
import Derived.Shelf.Strings.IndexAnyAll
set_option maxRecDepth 100000
set_option linter.unusedSimpArgs false
set_option linter.unusedVariables false
set_option maxHeartbeats 8000000
section
namespace Go.Proofs.YtemjejfpadnljaaGreatDoor
open Go.Vc Go.Proofs Go.RowKit Cae
def nJ (dD:Bool)(ps:List Int)(i:Nat)(l:List bV):Bool:=l.foldr (λr acc=>if fM ps i r then r.brk else acc) dD
theorem O7 (p:bM)(ps:List Int)(i:Nat):eZ p ps i 0=nJ p.dD ps i p.rules:=by unfold eZ nJ;rw[List.drop_zero]
theorem ln (dD:Bool)(ps:List Int)(i:Nat)(a b:List bV):nJ dD ps i (a++b)=nJ (nJ dD ps i b) ps i a:=by unfold nJ;rw[List.foldr_append]
theorem mU (dD:Bool)(ps:List Int)(i:Nat)(r:bV)(l:List bV):nJ dD ps i (r::l)=if fM ps i r then r.brk else nJ dD ps i l:=rfl
theorem RP {p:bM}{out:List bV}(h:∀ps i,nJ p.dD ps i p.rules=nJ p.dD ps i out)(ps:List Int):fF ⟨out,p.dD⟩ ps=fF p ps:=by
 unfold fF bX;congr 2;funext i;unfold nF;rw[O7,O7,h]
def iX:List bV->Nat
 | []=>0
 | r::l=>r.before.ins.length+r.after.ins.length+iX l
theorem wI:∀(a b:List bV),iX (a++b)=iX a+iX b
 | [],b=>by simp[iX]
 | r::a,b=>by rw[List.cons_append,iX,iX,wI a b];omega
def mz (c:aD):Bool:=match c.ins[0]? with
 | none=>false
 | some x=>decide (x.op=1) && decide ((c.sets.getD x.a.toNat []).length=0)
def tQ (c:aD):Bool:=match c.ins[0]? with
 | none=>false
 | some x=>decide (x.op=5)
theorem Hi {c:aD}(hc:CR c)(h:mz c=true)(ps:List Int):(e9 c ps).1=false:=by
 cases hm:(e9 c ps).1 with
 | false=>rfl
 | true =>
  have ha:=(mY hc ps).1 hm;unfold mz at h;cases hx:c.ins[0]? with
  | none=>rw[hx]at h;cases h
  | some x =>
   rw[hx]at h;simp only[Bool.and_eq_true,decide_eq_true_eq]at h;rw[gd hx (by omega)]at ha;obtain⟨p,r,_,hp,_⟩:=ha;rw[List.eq_nil_of_length_eq_zero h.2]at hp;exact absurd hp (by simp[ew])
theorem Ox {c:aD}(hc:CR c)(h:tQ c=true)(ps:List Int):(e9 c ps).1=true:=by
 rw[mY hc];unfold tQ at h;cases hx:c.ins[0]? with
 | none=>rw[hx]at h;cases h
 | some x =>
  rw[hx]at h;exact lK hx (by simpa using h)
structure fg (r s:bV):Prop where
 brk:s.brk=r.brk
 cb:CR r.before
 ca:CR r.after
 before:fU r.before s.before
 after:fU r.after s.after
theorem fg.met {r s:bV}(h:fg r s)(ps:List Int)(i:Nat):fM ps i s=fM ps i r:=by
 unfold fM;rw[h.before.vm h.cb,h.after.vm h.ca]
theorem fg.dead {r s:bV}(h:fg r s)(hd:mz s.before=true\/mz s.after=true)(ps:List Int)(i:Nat):fM ps i r=false:=by
 rw[<-h.met];unfold fM;rcases hd with hd|hd
 ·rw[Hi h.before.cr hd];rfl
 rw[Hi h.after.cr hd];simp
theorem fg.yes {r s:bV}(h:fg r s)(h1:tQ s.before=true)(h2:tQ s.after=true)(ps:List Int)(i:Nat):fM ps i s=true:=by
 unfold fM;rw[Ox h.before.cr h1,Ox h.after.cr h2];rfl
def Ki (p:bM):Prop:=∃r l,p.rules=r::l/\(r.before.ins.length=1/\Acc r.before 0 [])/\(r.after.ins.length=1/\Acc r.after 0 [])
def Kk (r:bV):Prop:=(aS r.before=true/\aS r.after=true)/\mn r.before/\mn r.after
theorem fg.ok {r s:bV}(h:fg r s):Kk s:=by
 have a1:=h.before.cr.many;have a2:=h.before.cr.sets;have a3:=h.after.cr.many;have a4:=h.after.cr.sets;exact⟨⟨h.before.cr.to,h.after.cr.to⟩,⟨h.before.lens,by omega,by omega⟩,h.after.lens,by omega,by omega⟩
structure lq (p:bM)(out:List bV):Prop where
 SX:∀ps i,nJ p.dD ps i p.rules=nJ p.dD ps i out
 len:out.length<=p.rules.length
 size:iX out<=iX p.rules
 right:∀r∈out,Kk r
 one:Ki p->out.length<=1
structure tY (p:bM)(k:Nat)(out:List bV):Prop where
 SX:∀ps i,nJ p.dD ps i p.rules=nJ p.dD ps i (out++p.rules.drop k)
 len:out.length<=k
 size:iX out+iX (p.rules.drop k)<=iX p.rules
 right:∀r∈out,Kk r
 one:Ki p->k=0
theorem tY.zero (p:bM):tY p 0 []:=⟨λ_ _=>by rw[List.drop_zero];rfl,Nat.le_refl _,by rw[List.drop_zero,iX];omega,λ_ h=>by simp at h,λ_=>rfl⟩
theorem drop_at {α:Type}{l:List α}{k:Nat}{r:α}(h:l[k]?=some r):l.drop k=r::l.drop (k+1):=by
 have aj:=(List.getElem?_eq_some_iff.1 h).1;rw[List.drop_eq_getElem_cons aj]
 have:=List.getElem?_eq_getElem aj;rw[h]at this;cases this;rfl
theorem yx {p:bM}{r s:bV}(hA:Ki p)(hr:p.rules[0]?=some r)(h:fg r s):tQ s.before=true/\tQ s.after=true/\mz s.before=false/\mz s.after=false:=by
 obtain⟨r',l,e,⟨b1,b2⟩,a1,a2⟩:=hA;rw[e]at hr;cases hr;have e1:=h.before.one b1 b2;have e2:=h.after.one a1 a2;unfold tQ mz;rw[e1,e2];exact⟨rfl,rfl,rfl,rfl⟩
theorem tY.gone {p:bM}{k:Nat}{out:List bV}{r s:bV}(h:tY p k out)(hr:p.rules[k]?=some r)(hs:fg r s)(hd:mz s.before=true\/mz s.after=true):tY p (k+1) out:=by
 refine⟨λps i=>?_,by have:=h.len;omega,?_,h.right,λhA=>?_⟩
 ·rw[h.SX,drop_at hr,ln,ln,mU,hs.dead hd];rfl
 ·have:=h.size;rw[drop_at hr,iX]at this;omega
 have:=h.one hA;subst this;have hh:=yx hA hr hs;rcases hd with hd|hd
 ·rw[hd]at hh;exact absurd hh.2.2.1 (by simp)
 rw[hd]at hh;exact absurd hh.2.2.2 (by simp)
theorem tY.more {p:bM}{k:Nat}{out:List bV}{r s:bV}(h:tY p k out)(hr:p.rules[k]?=some r)(hs:fg r s)(hn:¬(tQ s.before=true/\tQ s.after=true)):tY p (k+1) (out++[s]):=by
 refine⟨λps i=>?_,by rw[List.length_append];have:=h.len;simp only[List.length_cons,List.length_nil];omega,?_,λx hx=>?_,λhA=>?_⟩
 ·rw[h.SX,drop_at hr,List.append_assoc,List.singleton_append,ln,ln,mU,mU,hs.met,hs.brk]
 ·have:=h.size;have b:=hs.before.len;have a:=hs.after.len;rw[drop_at hr,iX]at this;rw[wI,iX,iX];omega
 ·rcases List.mem_append.1 hx with hx|hx
  ·exact h.right x hx
  simp at hx;subst hx;exact hs.ok
 have:=h.one hA;subst this;have hh:=yx hA hr hs;exact absurd ⟨hh.1,hh.2.1⟩ hn
theorem tY.last {p:bM}{k:Nat}{out:List bV}{r s:bV}(h:tY p k out)(hr:p.rules[k]?=some r)(hs:fg r s)(h1:tQ s.before=true)(h2:tQ s.after=true):lq p (out++[s]):=by
 have aj:=(List.getElem?_eq_some_iff.1 hr).1;refine⟨λps i=>?_,by rw[List.length_append];have:=h.len;simp only[List.length_cons,List.length_nil];omega,?_,λx hx=>?_,λhA=>?_⟩
 ·have hm:=hs.yes h1 h2 ps i;have No:=hs.met ps i;rw[hm]at No;rw[h.SX,drop_at hr,ln,ln,mU,mU,hm,<-No,hs.brk];rfl
 ·have:=h.size;have b:=hs.before.len;have a:=hs.after.len;rw[drop_at hr,iX]at this;rw[wI,iX,iX];omega
 ·rcases List.mem_append.1 hx with hx|hx
  ·exact h.right x hx
  simp at hx;subst hx;exact hs.ok
 have:=h.one hA;subst this
 have:=h.len;rw[List.length_append];simp only[List.length_cons,List.length_nil];omega
theorem tY.done {p:bM}{k:Nat}{out:List bV}(h:tY p k out)(hk:k=p.rules.length):lq p out:=by
 subst hk;have hd:p.rules.drop p.rules.length=[]:=List.drop_eq_nil_of_le (Nat.le_refl _);refine⟨λps i=>?_,h.len,?_,h.right,λhA=>?_⟩
 ·rw[h.SX,hd,List.append_nil]
 ·have:=h.size;rw[hd,iX]at this;omega
 have:=h.one hA;obtain⟨r,l,e,_⟩:=hA;rw[e]at this;simp at this
theorem lq.right' {p:bM}{out:List bV}(h:lq p out)(hp:bB p=true)(dD:Bool):bB ⟨out,dD⟩=true:=by
 have h1:=(eD hp).1;have h2:=h.len;unfold bB;simp only[Bool.and_eq_true,decide_eq_true_eq,List.all_eq_true];exact⟨by omega,λr hr=>(h.right r hr).1⟩
theorem lq.lens {p:bM}{out:List bV}(h:lq p out)(hp:p.rules.length<1000000000)(dD:Bool):jo ⟨out,dD⟩:=by
 have h2:=h.len;exact⟨by show out.length<_;omega,λr hr=>(h.right r hr).2⟩
end Go.Proofs.YtemjejfpadnljaaGreatDoor
end
section
namespace Go.Proofs.YtemjejfpadnljaaGreatDoor
open Go.Vc Go.Proofs Go.RowKit Cae
attribute [local irreducible] cg aa ag aX runK ar Sl Vc.Own vc aQ br a7
theorem Us (c:aD)(hc:CR c)(X:Nat->Prop)(v:Value)(w:World)(hv:cL X w v c) :
  ar Tryz.prog 74 [v] w λr w'=>r=.bool (mz c)/\Below w.heap.size w w':=by
 have hm:=hc.many;have sg:=hc.one;have Qq:=hc.sets;obtain⟨sv,iv,rfl,so,tS⟩:=hv;obtain⟨a,cp,rfl,Qc⟩:=tS.shape;have GH:=so.shape;obtain⟨sa,sc,rfl,CH⟩:=GH;have pq:=dp.values so;obtain⟨us,aOm,aFk,aFl⟩:=pq;have hg:=ah (l:=c.ins) (i:=0) (by omega);obtain⟨x,hx,mm,_⟩:=hg;refine aE Tryz.func74 rfl (by kernel_rfl) [2] rfl ?_;push_cast -dsimp(maxSteps:=4000000) [Tryz.ntmps74];refine aR ?_;intro w1 aV;have aV:mg w w1 127 [.slice sa c.sets.length sc,.slice a c.ins.length cp]:=aV;have ph:=aV.size;have hg:=(tS.below aV.below).get hx;obtain⟨ib,io,rfl,_,hic⟩:=hg;push_cast -dsimp;refine ba (λw'=>w'=w1.drew) mixed (by kernel_rfl) rfl ?_;have hB:aL w1.drew w.heap.size 127 [.slice sa c.sets.length sc,.slice (some ⟨ib,io,none⟩) c.ins.length cp]:=aV.aM.drew;have t1:w1.drew.cell? ⟨w.heap.size,1,none⟩=some (.slice (some ⟨ib,io,none⟩) c.ins.length cp):=hB.cell rfl;have t0:w1.drew.cell? ⟨w.heap.size,0,none⟩=some (.slice sa c.sets.length sc):=hB.cell rfl;have c0:w1.drew.cell? ⟨ib,io,none⟩=some (.int .i64 x.op):=by have:=hic 0 _ rfl;simpa using this
 have c1:w1.drew.cell? ⟨ib,io+1,none⟩=some (.int .i64 x.a):=by have:=hic 1 _ rfl;simpa using this
 have hdp:mz c=(decide (x.op=1) && decide ((c.sets.getD x.a.toNat []).length=0)):=by unfold mz;rw[hx]
 push_cast -dsimp[t1,t0,c0,c1];have L:∀{ad:Addr} {u:Value},w1.drew.cell? ad=some u->∀bE:World,bE=w1.drew->mR (bE.cell? ad) (λx=>x=u) .mk:=λh bE e=>by rw[e,h];exact rfl
 have pd:Below w.heap.size w w1.drew:=aV.below.drew;refine⟨L t1,by omega,L c0,λh1=>⟨L t0,L t1,by omega,L c1,?_⟩,λh1=>⟨by rw[hdp,decide_eq_false h1];rfl,pd⟩⟩;have hj:=iV hc hx (by omega);have Fp:x.a=((x.a.toNat:Nat):Int):=by rw[Int.toNat_of_nonneg hj.2.1]
 have Wa:=List.getElem?_eq_getElem (l:=us) (i:=x.a.toNat) (by omega);have hug:=aFk.get Wa;obtain⟨ub,uo,rfl,_,huc⟩:=hug;have hes:=List.getElem?_eq_getElem (l:=c.sets) (i:=x.a.toNat) (by omega);have fa:=(aFl _ _ _ Wa hes).shape;obtain⟨ua,uc,hev,_⟩:=fa;have csv:w1.drew.cell? ⟨ub,uo+x.a.toNat,none⟩=some (.slice ua (c.sets[x.a.toNat]'(by omega)).length uc):=by
  have:=huc 0 _ rfl;rw[Nat.mul_one,Nat.add_zero,hev]at this;exact(Kept.aN pd (X:=λ_=>False) (λk hk hl=>by omega)).cell this id
 have TM:c.sets.getD x.a.toNat []=c.sets[x.a.toNat]'(by omega):=by rw[List.getD_eq_getElem?_getD,hes];rfl
 have TN:∃n,(c.sets[x.a.toNat]'(by omega)).length=n:=⟨_,rfl⟩;obtain⟨n,hn⟩:=TN;rw[TM,hn,decide_eq_true h1,Bool.true_and]at hdp;rw[hn]at csv;push_cast -dsimp[csv];refine⟨⟨by omega,by omega⟩,L csv,?_⟩;rw[hdp];exact⟨by congr 1;rw[decide_eq_decide];omega,pd⟩
def ET (Y:Nat->Prop)(p:bM)(r:Value)(w':World):Prop :=
 if bB p=true then ∃out v,r=.tuple #[v,.nilIface]/\lq p out/\gb Y w' v ⟨out,p.dD⟩ else r=.tuple #[.agg #[.slice none 0 0,.bool false],.iface 74 (.int .i64 1)]
theorem SG (p:bM)(hl:jo p)(Y:Nat->Prop)(v:Value)(w:World)(hY:∀b,Y b->b<w.heap.size)(hN:iI w)(hv:gb Y w v p) :
  ar Tryz.prog 47 [v] w λr w'=>ET Y p r w'/\Below w.heap.size w w':=by
 have Nw:=hv;obtain⟨rv,rfl,hr⟩:=hv;obtain⟨a,cp,rfl,Qc⟩:=hr.shape;refine gh Tryz.func47 rfl (by kernel_rfl) [.cell 2 71,.tmp 3] rfl ?_;push_cast -dsimp(maxSteps:=4000000) [Tryz.ntmps47];refine aR ?_;intro w1 aV;have aV:mg w w1 71 [.slice a p.rules.length cp,.bool p.dD]:=aV;have ph:=aV.size;push_cast -dsimp;refine ao (z:=[.slice none 0 0,.bool false]) (by kernel_rfl) ?_;intro w2 bH;have BV:=bH.size;have dt:Below w.heap.size w w2:=aV.below.trans (bH.below.mono (by omega));have fx:aL w2 w.heap.size 71 [.slice a p.rules.length cp,.bool p.dD]:=aV.aM.below bH.below (by omega);have xz:aL w2 w1.heap.size 71 [.slice none 0 0,.bool false]:=bH.aM;have d2:=fx.aB;simp only[List.length_cons,List.length_nil,Nat.zero_add,Nat.reduceAdd]at d2;push_cast -dsimp[d2];refine aA (j0 p hl _ _ w2 (Nw.below dt)) ?_;rintro _ w3 ⟨rfl,gV⟩;have Kf:=gV.size;have L5:=fx.below gV (by omega);have Zy:=xz.below gV (by omega);have cM:Below w.heap.size w w3:=dt.trans (gV.mono (by omega));unfold ET;cases hPR:bB p with
 | false =>
  push_cast -dsimp;refine aH (n:=2) (by kernel_rfl) Zy rfl (by simp) (by simp[Value.oneCell']) ?_;intro w4 ae;have q4:aB w4 ⟨w1.heap.size,0,none⟩ 0 2=some [.slice none 0 0,.bool false]:=ae.aM.aB;push_cast -dsimp[q4,Bool.false_eq_true,if_false];exact cM.trans (ae.kept.below (by omega) (λ_ h=>by omega))
 | true =>
  have W5:=eD hPR;obtain⟨aNx,dA⟩:=W5;have c3:w3.cell? ⟨w.heap.size,1,none⟩=some (.bool p.dD):=L5.cell rfl;push_cast -dsimp[c3];refine ao (z:=[.slice none 0 0,.bool false]) (by kernel_rfl) ?_;intro w4 ae;have KB:=ae.size;push_cast -dsimp;refine aH (n:=2) (by kernel_rfl) ae.aM rfl (by simp) (by simp[Value.oneCell']) ?_;intro w5 cH;have Mq:=cH.size;have k5:Kept (λj=>j=w3.heap.size) w3 w5:=(Kept.new ae).trans cH.kept (λ_ _ h=>h);have Fk:=L5.kept k5 (by omega);have hR5:=Zy.kept k5 (by omega);have hW5:aL w5 w3.heap.size 71 [.slice none 0 0,.bool p.dD]:=cH.aM;have mj:Below w.heap.size w w5:=cM.trans (k5.below (by omega) (λ_ h=>by omega));have c5:w5.cell? ⟨w.heap.size,0,none⟩=some (.slice a p.rules.length cp):=Fk.cell rfl;push_cast -dsimp[c5];refine aK [3,6,7,8,9,10,22,23,24,25,26,27,28,29,30,31,32,33,34,35,36,37,38,39,40,41,42,43,44,45,46,47,48,49,50,51,52,53,54,55,56,57,58,59,60,61,62,63,64,65,66,67,68,69,70,71,72,73,74,75,76] (λz wx=>∃(k:Nat) (out:List bV) (us:List PV) (ov:Value),z 22=.int .i64 k/\k<=p.rules.length/\tY p k out/\aL wx w3.heap.size 71 [ov,.bool p.dD]/\Vc.Own w5.heap.size 129 5 gJ wx ov us/\us.length=out.length /\
    (∀(i:Nat) (s:bV),out[i]?=some s->∃u,us[i]?=some u/\dy (λb=>(b=w1.heap.size\/b=w3.heap.size\/ov.ownBlock=some b)\/Y b) wx (gJ u) s) /\
    aL wx w1.heap.size 71 [.slice none 0 0,.bool false]/\Below w.heap.size w wx/\w5.heap.size<=wx.heap.size) (λz _=>p.rules.length-(intOf (z 22)).toNat) ?_ ?_
  ·exact⟨0,[],[],_,rfl,Nat.zero_le _,tY.zero p,hW5,Vc.Own.nil (enc:=gJ) _ _ (λ_=>rfl) _,rfl,λi s h=>by simp at h,hR5,mj,Nat.le_refl _⟩
  intro z wx hI;obtain⟨k,out,us,ov,h22,hk,hP,hWx,eG,uQ,Wa,vf,eW,yS⟩:=hI;push_cast -dsimp[h22];refine⟨λaj=>?_,λeo=>?_⟩
  ·have hg:=ah (l:=p.rules) (i:=k) (by omega);obtain⟨r,hx,mm,_⟩:=hg;have W0:=dA r mm;have Ka:=hl.2 r mm;have hg:=hr.xw hx;obtain⟨b,o,cs,rfl,_,iQ,aEH,hRr⟩:=hg;obtain⟨sv1,iv1,sv2,iv2,rfl,hv1,hv2⟩:=hRr;have aU:∀j u,([.bool r.brk,sv1,iv1,sv2,iv2]:List Value)[j]?=some u->wx.cell? ⟨b,o+k*5+j,none⟩=some u:=λj u hu=>(Kept.aN eW (X:=λ_=>False) (λk hk hl=>by omega)).cell (aEH j u hu) id;have cp5:aB wx ⟨b,o+k*5,none⟩ 0 5=some [.bool r.brk,sv1,iv1,sv2,iv2]:=ak _ 0 (λj u hu=>by simpa using aU j u hu);have aOn:=hv1;have aOo:=hv2;obtain⟨_,_,he,ft,Nh⟩:=hv1;cases he;obtain⟨_,_,he,gY,Ni⟩:=hv2;cases he;have fa:=ft.shape;obtain⟨x1,y1,rfl,_⟩:=fa;have fa:=gY.shape;obtain⟨x2,y2,rfl,_⟩:=fa;have fa:=Nh.shape;obtain⟨a1,k1,rfl,_⟩:=fa;have fa:=Ni.shape;obtain⟨a2,k2,rfl,_⟩:=fa;push_cast -dsimp[cp5];refine⟨⟨by omega,by omega⟩,?_⟩;refine ao (z:=[.bool false,.slice none 0 0,.slice none 0 0,.slice none 0 0,.slice none 0 0]) (by kernel_rfl) ?_;intro wa fu;have T0:=fu.size;push_cast -dsimp;refine aH (n:=5) (by kernel_rfl) fu.aM rfl (by simp) (by simp[Value.oneCell']) ?_;intro wb dE;have Ms:=dE.size;have kb:Below wx.heap.size wx wb:=fu.below.trans (dE.kept.below (by omega) (λ_ h=>by omega));have IU:aL wb wx.heap.size 129 [.bool r.brk,.slice x1 r.before.sets.length y1,.slice a1 r.before.ins.length k1,.slice x2 r.after.sets.length y2,.slice a2 r.after.ins.length k2]:=dE.aM
   have e1:aB wb ⟨wx.heap.size,1,none⟩ 0 2=some [.slice x1 r.before.sets.length y1,.slice a1 r.before.ins.length k1]:=jr (n:=2) IU 1 rfl rfl;have hgX:∃X,X=(λb=>b=w1.heap.size\/b=w3.heap.size\/ov.ownBlock=some b):=⟨_,rfl⟩;obtain⟨X,hX⟩:=hgX;have huX:∀(i:Nat) (s:bV),out[i]?=some s->∃u,us[i]?=some u/\dy (λb=>X b\/Y b) wx (gJ u) s:=by rw[hX];exact Wa
   have hXw:∀b,X b->w.heap.size<=b/\b<wx.heap.size:=λb h=>by
    rw[hX]at h;rcases h with h|h|h
    ·omega
    ·omega
    have:=eG.block b h;omega
   have aAp:cL (λb=>X b\/Y b) w _ r.before:=aOn.narrow (X':=λb=>X b\/Y b) (λb hb h=>h.elim (λh=>by have:=hXw b h;omega) id);have aAq:cL (λb=>X b\/Y b) w _ r.after:=aOo.narrow (X':=λb=>X b\/Y b) (λb hb h=>h.elim (λh=>by have:=hXw b h;omega) id);have j6:Below w.heap.size w wb:=eW.trans (kb.mono (by omega));have sE:=(CR.of W0.1).many;have eE:=(CR.of W0.1).sets;have hm3:=(CR.of W0.2).many;have hm4:=(CR.of W0.2).sets;push_cast -dsimp[e1];refine aA (Uf r.before Ka.1.1 (by omega) (by omega) (λb=>X b\/Y b) _ wb (λb h=>h.elim (λh=>by have:=hXw b h;omega) (λh=>by have:=hY b h;omega)) (hN.below j6) (aAp.below j6)) ?_;rintro r1 wc ⟨vM,vh⟩;have ZA:=vh.size;unfold NM at vM;rw[if_pos W0.1]at vM;obtain⟨d1,dv1,rfl,hL1,hd1⟩:=vM;have aMN:=hd1;obtain⟨_,_,rfl,aMV,aMS⟩:=hd1;have fa:=aMV.shape;obtain⟨TY,TZ,rfl,_⟩:=fa;have fa:=aMS.shape;obtain⟨ia1,Qv,rfl,_⟩:=fa;push_cast -dsimp;refine ao (z:=[.slice none 0 0,.slice none 0 0]) (by kernel_rfl) ?_;intro wd iT;have ZB:=iT.size;push_cast -dsimp;refine aH (n:=2) (by kernel_rfl) iT.aM rfl (by simp) (by simp[Value.oneCell']) ?_;intro we lE;have Kg:=lE.size;have ke:Below wc.heap.size wc we:=iT.below.trans (lE.kept.below (by omega) (λ_ h=>by omega));have WD:Below wx.heap.size wx we:=kb.trans ((vh.mono (by omega)).trans (ke.mono (by omega)));have s9:Below w.heap.size w we:=eW.trans (WD.mono (by omega));have hXe:aL we wx.heap.size 129 _:=(IU.below vh (by omega)).below ke (by omega)
   have hDe:aL we wc.heap.size 127 [.slice TY d1.sets.length TZ,.slice ia1 d1.ins.length Qv]:=lE.aM;have e2:aB we ⟨wx.heap.size,3,none⟩ 0 2=some [.slice x2 r.after.sets.length y2,.slice a2 r.after.ins.length k2]:=jr (n:=2) hXe 3 rfl rfl;push_cast -dsimp[e2];refine aA (Uf r.after Ka.2.1 (by omega) (by omega) (λb=>X b\/Y b) _ we (λb h=>h.elim (λh=>by have:=hXw b h;omega) (λh=>by have:=hY b h;omega)) (hN.below s9) (aAq.below s9)) ?_;rintro r2 wf ⟨uO,Vz⟩;have szf:=Vz.size;unfold NM at uO;rw[if_pos W0.2]at uO;obtain⟨d2,dv2,rfl,hL2,hd2⟩:=uO;have aMP:=hd2;obtain⟨_,_,rfl,aMW,aMT⟩:=hd2;have fa:=aMW.shape;obtain⟨Gm,Gp,rfl,_⟩:=fa;have fa:=aMT.shape;obtain⟨ia2,Qw,rfl,_⟩:=fa;push_cast -dsimp;refine ao (z:=[.slice none 0 0,.slice none 0 0]) (by kernel_rfl) ?_;intro wg lF;have szg:=lF.size;push_cast -dsimp;refine aH (n:=2) (by kernel_rfl) lF.aM rfl (by simp) (by simp[Value.oneCell']) ?_;intro wh Kc;have szh:=Kc.size;have kh:Below wf.heap.size wf wh:=lF.below.trans (Kc.kept.below (by omega) (λ_ h=>by omega));have Q8:Below wx.heap.size wx wh:=WD.trans ((Vz.mono (by omega)).trans (kh.mono (by omega)));have hXh:aL wh wx.heap.size 129 _:=(hXe.below Vz (by omega)).below kh (by omega);have hDh:aL wh wc.heap.size 127 _:=(hDe.below Vz (by omega)).below kh (by omega);have Zr:aL wh wf.heap.size 127 [.slice Gm d2.sets.length Gp,.slice ia2 d2.ins.length Qw]:=Kc.aM;have aIN:cL (λb=>X b\/Y b) wh _ d1:=((aMN.below ke).below Vz).below kh;have aIO:cL (λb=>X b\/Y b) wh _ d2:=aMP.below kh
   have q1:aB wh ⟨wc.heap.size,0,none⟩ 0 2=some [.slice TY d1.sets.length TZ,.slice ia1 d1.ins.length Qv]:=hDh.aB;push_cast -dsimp[q1];have hLP:fg r ⟨r.brk,d1,d2⟩:=⟨rfl,CR.of W0.1,CR.of W0.2,hL1,hL2⟩;refine aA (Us d1 hL1.cr _ _ wh aIN) ?_;rintro _ wi ⟨rfl,HH⟩;have szi:=HH.size;have aII:=Q8.trans (HH.mono (by omega));cases aMQ:mz d1 with
   | true =>
    push_cast -dsimp;have vi:Below wx.heap.size wx wi:=aII;have aOP:=vi.size;exact⟨⟨by omega,by omega⟩,⟨k+1,out,us,ov,rfl,by omega,hP.gone hx hLP (.inl aMQ),hWx.below vi (by omega),eG.aJ (Kept.aN vi (X:=λ_=>False) (λk hk hl=>by omega)) (λ_ _ h=>h),uQ,λi s h=>by
     obtain⟨u,h1,h2⟩:=Wa i s h;exact⟨u,h1,h2.below vi⟩,vf.below vi (by omega),eW.trans (vi.mono (by omega)),by omega⟩,by rw[h22];simp only[intOf];omega⟩
   | false =>
    have Ym:=Zr.below HH (by omega);have hDi:=hDh.below HH (by omega);have hXi:=hXh.below HH (by omega);have q2:aB wi ⟨wf.heap.size,0,none⟩ 0 2=some [.slice Gm d2.sets.length Gp,.slice ia2 d2.ins.length Qw]:=Ym.aB;push_cast -dsimp[q2];refine aA (Us d2 hL2.cr _ _ wi (aIO.below HH)) ?_;rintro _ wj ⟨rfl,Q5⟩;have szj:=Q5.size;have Q9:=aII.trans (Q5.mono (by omega));cases aMR:mz d2 with
    | true =>
     push_cast -dsimp;have vi:Below wx.heap.size wx wj:=Q9;have aOP:=vi.size;exact⟨⟨by omega,by omega⟩,⟨k+1,out,us,ov,rfl,by omega,hP.gone hx hLP (.inr aMR),hWx.below vi (by omega),eG.aJ (Kept.aN vi (X:=λ_=>False) (λk hk hl=>by omega)) (λ_ _ h=>h),uQ,λi s h=>by
      obtain⟨u,h1,h2⟩:=Wa i s h;exact⟨u,h1,h2.below vi⟩,vf.below vi (by omega),eW.trans (vi.mono (by omega)),by omega⟩,by rw[h22];simp only[intOf];omega⟩
    | false =>
     have hFj:=Ym.below Q5 (by omega);have hDj:=hDi.below Q5 (by omega);have hXj:=hXi.below Q5 (by omega);have hWj:=hWx.below Q9 (by omega);have hRj:=vf.below Q9 (by omega);have aIP:=(aIN.below HH).below Q5;have aIR:=(aIO.below HH).below Q5;have z1:wj.cell? ⟨w3.heap.size,0,none⟩=some ov:=hWj.cell rfl;have z2:wj.cell? ⟨wx.heap.size,0,none⟩=some (.bool r.brk):=hXj.cell rfl;have z3:aB wj ⟨wc.heap.size,0,none⟩ 0 2=some [.slice TY d1.sets.length TZ,.slice ia1 d1.ins.length Qv]:=hDj.aB;have z4:aB wj ⟨wf.heap.size,0,none⟩ 0 2=some [.slice Gm d2.sets.length Gp,.slice ia2 d2.ins.length Qw]:=hFj.aB;have hos:=eG.slice;obtain⟨oa,oc,Np⟩:=hos;rw[Np]at z1;push_cast -dsimp[z1,z2,z3,z4];refine cG vV rfl rfl (by omega) ?_;intro wk hwk;have szk:=hwk.size;have qQ:=eG.aJ (Kept.aN Q9 (X:=λ_=>False) (λk hk hl=>by omega)) (λ_ _ h=>h);rw[Np]at qQ;push_cast -dsimp;refine aW (base:=w5.heap.size) [⟨r.brk,⟨TY,d1.sets.length,TZ⟩,⟨ia1,d1.ins.length,Qv⟩,⟨Gm,d2.sets.length,Gp⟩,⟨ia2,d2.ins.length,Qw⟩⟩] (enc:=gJ) vV (qQ.new hwk) (by rfl) (λj u hu=>by simpa[gJ,SV.v] using hwk.cell hu) vW (by have:=hP.len;simp only[List.length_cons,List.length_nil];omega) (by omega) ?_;intro vl wl TR TN hnl;have aE8:=TR.slice;obtain⟨la,lc,rfl⟩:=aE8;have Zv:∀g,(Value.slice oa us.length oc).ownBlock=some g->w5.heap.size<=g/\g<wx.heap.size:=λg hg=>eG.block g (by rw[Np];exact hg);have hXo:∀g,(Value.slice oa us.length oc).ownBlock=some g->X g:=λg hg=>by rw[hX,Np];exact .inr (.inr hg)
     have kO:Kept (λj=>(Value.slice oa us.length oc).ownBlock=some j) wj wl:=(Kept.new hwk).trans (Kept.grown TN (λ_ h=>h)) (λ_ _ h=>h);have szl:=kO.size;have hWl:=hWj.kept kO (λh=>by have:=Zv _ h;omega);have hRl:=hRj.kept kO (λh=>by have:=Zv _ h;omega);have hDl:=hDj.kept kO (λh=>by have:=Zv _ h;omega);have hFl:=hFj.kept kO (λh=>by have:=Zv _ h;omega);push_cast -dsimp;refine aC hWl (by simp) rfl ?_;intro wm hwm;have szm:wm.heap.size=wl.heap.size:=hwm.size;have hRm:=hRl.kept hwm.kept (by omega);have hDm:=hDl.kept hwm.kept (by omega);have hFm:=hFl.kept hwm.kept (by omega);have kX:Kept X wj wm:=(kO.weaken (Y:=X) (λg _ h=>hXo g h)).trans hwm.kept (λg _ h=>by rw[hX];exact .inr (.inl h));have aQn:=hL1.cr.one;have aQo:=hL2.cr.one;have hg:=ah (l:=d1.ins) (i:=0) (by omega);obtain⟨y1,hy1,_,_⟩:=hg;have hg:=ah (l:=d2.ins) (i:=0) (by omega);obtain⟨y2,hy2,_,_⟩:=hg;have aIQ:=aIP;have aIS:=aIR;obtain⟨_,_,he,_,aNo⟩:=aIP;cases he;obtain⟨_,_,he,_,aNp⟩:=aIR;cases he;have hg:=aNo.get hy1;obtain⟨b1,o1,rfl,aNG,Fz⟩:=hg;have hg:=aNp.get hy2;obtain⟨b2,o2,rfl,aNH,uI⟩:=hg;have t1:wm.cell? ⟨wc.heap.size,1,none⟩=some (.slice (some ⟨b1,o1,none⟩) d1.ins.length Qv):=hDm.cell rfl;have t2:wm.cell? ⟨wf.heap.size,1,none⟩=some (.slice (some ⟨b2,o2,none⟩) d2.ins.length Qw):=hFm.cell rfl;have t3:wm.cell? ⟨b1,o1,none⟩=some (.int .i64 y1.op):=kX.cell (by have:=Fz 0 _ rfl;simpa using this) (λh=>aNG (.inl h))
     have t4:wm.cell? ⟨b2,o2,none⟩=some (.int .i64 y2.op):=kX.cell (by have:=uI 0 _ rfl;simpa using this) (λh=>aNH (.inl h));have aFn:tQ d1=decide (y1.op=5):=by unfold tQ;rw[hy1]
     have aFo:tQ d2=decide (y2.op=5):=by unfold tQ;rw[hy2]
     have conv:∀cs s,dy (λb=>X b\/Y b) wj cs s->dy (λb=>(b=w1.heap.size\/b=w3.heap.size\/(Value.slice la (us++[(⟨r.brk,⟨TY,d1.sets.length,TZ⟩,⟨some ⟨b1,o1,none⟩,d1.ins.length,Qv⟩,⟨Gm,d2.sets.length,Gp⟩,⟨some ⟨b2,o2,none⟩,d2.ins.length,Qw⟩⟩:PV)]).length lc).ownBlock=some b)\/Y b) wm cs s:=λcs s h=>by
      refine(h.narrow (X':=λb=>(X b\/(Value.slice la (us++[(⟨r.brk,⟨TY,d1.sets.length,TZ⟩,⟨some ⟨b1,o1,none⟩,d1.ins.length,Qv⟩,⟨Gm,d2.sets.length,Gp⟩,⟨some ⟨b2,o2,none⟩,d2.ins.length,Qw⟩⟩:PV)]).length lc).ownBlock=some b)\/Y b) (λb hb hh=>?_)).mono (λb mJ aj=>kX.block b aj (λhh=>mJ (.inl (.inl hh)))) (λb hh=>?_)
      ·rcases hh with (hh|hh)|hh
       ·exact .inl hh
       ·rcases hnl b hh with h1|h1
        ·exact .inl (hXo b h1)
        omega
       exact .inr hh
      rcases hh with (hh|hh|hh)|hh
      ·left;left;rw[hX];exact .inl hh
      ·left;left;rw[hX];exact .inr (.inl hh)
      ·exact .inl (.inr hh)
      exact .inr hh
     have hum:=sR (Pr:=λ_ u s=>dy (λb=>(b=w1.heap.size\/b=w3.heap.size\/(Value.slice la (us++[(⟨r.brk,⟨TY,d1.sets.length,TZ⟩,⟨some ⟨b1,o1,none⟩,d1.ins.length,Qv⟩,⟨Gm,d2.sets.length,Gp⟩,⟨some ⟨b2,o2,none⟩,d2.ins.length,Qw⟩⟩:PV)]).length lc).ownBlock=some b)\/Y b) wm (gJ u) s) uQ (λi s h=>by
      obtain⟨u,h1,h2⟩:=huX i s h;exact⟨u,h1,conv _ _ (h2.below Q9)⟩) (u:=⟨r.brk,⟨TY,d1.sets.length,TZ⟩,⟨some ⟨b1,o1,none⟩,d1.ins.length,Qv⟩,⟨Gm,d2.sets.length,Gp⟩,⟨some ⟨b2,o2,none⟩,d2.ins.length,Qw⟩⟩) (x:=⟨r.brk,d1,d2⟩) (conv _ _ ⟨_,_,_,_,rfl,aIQ,aIS⟩)
     have hom:=TR.aJ hwm.kept (λg hg h=>by have:=(TR.block g hg).1;omega);have W8:(us++[(⟨r.brk,⟨TY,d1.sets.length,TZ⟩,⟨some ⟨b1,o1,none⟩,d1.ins.length,Qv⟩,⟨Gm,d2.sets.length,Gp⟩,⟨some ⟨b2,o2,none⟩,d2.ins.length,Qw⟩⟩:PV)]).length=(out++[(⟨r.brk,d1,d2⟩:bV)]).length:=by simp[uQ]
     have hWm:=hwm.aM;have WC:Below w.heap.size w wm:=(eW.trans (Q9.mono (by omega))).trans (kX.below (by omega) (λb h=>(hXw b h).1));push_cast -dsimp[t1,t2,t3,t4];refine⟨by omega,λg1=>⟨by omega,λg2=>?_,λg2=>?_⟩,λg1=>?_⟩
     ·have hPL:=hP.last hx hLP (by rw[aFn];exact decide_eq_true g1) (by rw[aFo];exact decide_eq_true g2);have qf:=hWm.aB;simp only[List.length_cons,List.length_nil,Nat.zero_add,Nat.reduceAdd,List.set_cons_zero,List.set_cons_succ]at qf;push_cast -dsimp[qf];refine aH (n:=2) (by kernel_rfl) hRm rfl (by simp) (by simp[Value.oneCell']) ?_;intro wq Lw;have szq:=Lw.size;have qc:aB wq ⟨w1.heap.size,0,none⟩ 0 2=some [.slice la (us++[(⟨r.brk,⟨TY,d1.sets.length,TZ⟩,⟨some ⟨b1,o1,none⟩,d1.ins.length,Qv⟩,⟨Gm,d2.sets.length,Gp⟩,⟨some ⟨b2,o2,none⟩,d2.ins.length,Qw⟩⟩:PV)]).length lc,.bool p.dD]:=Lw.aM.aB;push_cast -dsimp[qc,if_true];have oh:=um (R:=dy Y wq) (hom.aJ Lw.kept (λg hg h=>by have:=(hom.block g hg).1;omega)) W8 (λi s h=>by
       obtain⟨u,h1,h2⟩:=hum i s h;exact⟨u,h1,h2.mono (λb mJ aj=>Lw.kept.block b aj (λhh=>mJ (.inl (.inl hh)))) (λ_ h=>.inr h)⟩)
      exact⟨⟨_,_,rfl,hPL,⟨_,rfl,oW.mono (X':=Y) (X:=Y) (oh.weaken (λb h=>by have:=hY b h;omega)) (λ_ _ _=>rfl) (λ_ h=>h)⟩⟩,WC.trans (Lw.kept.below (by omega) (λ_ h=>by omega))⟩
     ·exact⟨⟨by omega,by omega⟩,⟨k+1,_,_,_,rfl,by omega,hP.more hx hLP (by rw[aFn,aFo];simp[g2]),hWm,hom,W8,hum,hRm,WC,by omega⟩,by rw[h22];simp only[intOf];omega⟩
     exact⟨⟨by omega,by omega⟩,⟨k+1,_,_,_,rfl,by omega,hP.more hx hLP (by rw[aFn,aFo];simp[g1]),hWm,hom,W8,hum,hRm,WC,by omega⟩,by rw[h22];simp only[intOf];omega⟩
  have CD:k=p.rules.length:=by omega
  have hPL:=hP.done CD;have hos:=eG.slice;obtain⟨oa,oc,rfl⟩:=hos;have hWm:=hWx;have hRm:=vf;have hom:=eG;have W8:=uQ;have hum:=Wa;have WC:=eW;have qf:=hWm.aB;simp only[List.length_cons,List.length_nil,Nat.zero_add,Nat.reduceAdd,List.set_cons_zero,List.set_cons_succ]at qf;push_cast -dsimp[qf];refine aH (n:=2) (by kernel_rfl) hRm rfl (by simp) (by simp[Value.oneCell']) ?_;intro wq Lw;have szq:=Lw.size;have qc:aB wq ⟨w1.heap.size,0,none⟩ 0 2=some [.slice oa us.length oc,.bool p.dD]:=Lw.aM.aB;push_cast -dsimp[qc,if_true];have oh:=um (R:=dy Y wq) (hom.aJ Lw.kept (λg hg h=>by have:=(hom.block g hg).1;omega)) W8 (λi s h=>by
   obtain⟨u,h1,h2⟩:=hum i s h;exact⟨u,h1,h2.mono (λb mJ aj=>Lw.kept.block b aj (λhh=>mJ (.inl (.inl hh)))) (λ_ h=>.inr h)⟩)
  exact⟨⟨_,_,rfl,hPL,⟨_,rfl,oW.mono (X':=Y) (X:=Y) (oh.weaken (λb h=>by have:=hY b h;omega)) (λ_ _ _=>rfl) (λ_ h=>h)⟩⟩,WC.trans (Lw.kept.below (by omega) (λ_ h=>by omega))⟩
end Go.Proofs.YtemjejfpadnljaaGreatDoor
end
section
namespace Cae
theorem uT:∀(s cs:List UInt8) (x:UInt8),x∈s->cs.contains x=true->0<=Go.Lib.indexAny s cs:=by
 intro s cs x hx hc;induction s with
 | nil=>cases hx
 | cons b l ih =>
  unfold Go.Lib.indexAny;split
  ·decide
  rename_i hb;have hl:x∈l:=by
   rcases List.mem_cons.1 hx with e|h
   ·subst e;exact absurd hc hb
   exact h
  have:=ih hl;split
  ·rename_i he
   have:=beq_iff_eq.1 he;omega
  omega
end Cae
namespace Go.Proofs.YtemjejfpadnljaaGreatDoor
open Go.Vc Go.Proofs Go.RowKit Cae
attribute [local irreducible] cg aa ag aX runK ar Sl Vc.Own vc aQ br a7
def xG:Go.Shelf.Ren:=⟨λ| 153=>28|152=>50|226=>51|227=>52|228=>53|137=>82|119=>83|224=>84|225=>85|217=>119|266=>144|n=>n,λ| 9=>9|3=>3|4=>4|5=>5|21=>21|117=>118|116=>117|0=>0|46=>133|124=>178|n=>n,λ| n=>n⟩
theorem aAW:Go.Proofs.Lays.n153 Tryz.prog xG:={
 mixed:=by kernel_rfl
 f119:=Tryz.func83.trans (congrArg some (by kernel_rfl))
 f137:=Tryz.func82.trans (congrArg some (by kernel_rfl))
 f152:=Tryz.func50.trans (congrArg some (by kernel_rfl))
 f153:=Tryz.func28.trans (congrArg some (by kernel_rfl))
 f217:=Tryz.func119.trans (congrArg some (by kernel_rfl))
 f224:=Tryz.func84.trans (congrArg some (by kernel_rfl))
 f225:=Tryz.func85.trans (congrArg some (by kernel_rfl))
 f226:=Tryz.func51.trans (congrArg some (by kernel_rfl))
 f227:=Tryz.func52.trans (congrArg some (by kernel_rfl))
 f228:=Tryz.func53.trans (congrArg some (by kernel_rfl))
 f266:=Tryz.func144.trans (congrArg some (by kernel_rfl))
 t0:=Tryz.underlying0
 a0:=Tryz.isAgg0
 z0:=Tryz.sizeOf0
 v0:=Tryz.zeroValue0
 t3:=Tryz.underlying3
 a3:=Tryz.isAgg3
 z3:=Tryz.sizeOf3
 v3:=Tryz.zeroValue3
 t4:=Tryz.underlying4
 a4:=Tryz.isAgg4
 z4:=Tryz.sizeOf4
 v4:=Tryz.zeroValue4
 t5:=Tryz.underlying5
 a5:=Tryz.isAgg5
 z5:=Tryz.sizeOf5
 v5:=Tryz.zeroValue5
 t9:=Tryz.underlying9
 a9:=Tryz.isAgg9
 z9:=Tryz.sizeOf9
 v9:=Tryz.zeroValue9
 t21:=Tryz.underlying21
 a21:=Tryz.isAgg21
 z21:=Tryz.sizeOf21
 v21:=Tryz.zeroValue21
 t46:=Tryz.underlying133
 a46:=Tryz.isAgg133
 z46:=Tryz.sizeOf133
 v46:=Tryz.zeroValue133
 t116:=Tryz.underlying117
 a116:=Tryz.isAgg117
 z116:=Tryz.sizeOf117
 t117:=Tryz.underlying118
 a117:=Tryz.isAgg118
 z117:=Tryz.sizeOf118
 v117:=Tryz.zeroValue118
 t124:=Tryz.underlying178
 a124:=Tryz.isAgg178
 z124:=Tryz.sizeOf178
 v124:=Tryz.zeroValue178 }
theorem Wd (s cs:List UInt8)(w:World)(h8:8<s.length)(hs:s.length<=1000000)(h2:2<=cs.length)(il:cs.length<=1000000)(hac:∀(j:Nat) b,cs[j]?=some b->b.toNat<128) :
  ar Tryz.prog 28 [str s,str cs] w λr w'=>r=.int .i64 (Lib.indexAny s cs)/\Below w.heap.size w w':=by
 refine dL Tryz.func28 (by kernel_rfl) (by kernel_rfl) ?_;have hz:=Go.zero_of_info (P:=Tryz.prog) (t:=xG.t 116) (v:=.agg (Array.replicate 256 (.bool false))) (n:=256) (by kernel_rfl);refine Calls.mono (Any.strings_IndexAny_long aAW hz.1 hz.2 ⟨s.toArray⟩ ⟨cs.toArray⟩ w (by show 2<=cs.toArray.size;simp;omega) (by show 8<s.toArray.size;simp;omega) (by show s.toArray.size<_;simp;omega) (by show cs.toArray.size<_;simp;omega) hac) ?_
 rintro e w' ⟨rfl,rfl⟩;refine⟨_,rfl,rfl,?_⟩;exact((Below.refl w.heap.size w).alloc (Nat.le_refl _) _).alloc (by simp) _
theorem Vt (s:List UInt8)(w:World)(h8:8<s.length)(hs:s.length<=1000000)(h:(43:UInt8)∈s\/(123:UInt8)∈s) :
  ar Tryz.prog 9 [str s,str [123,43]] w λr w'=>r=.bool true/\Below w.heap.size w w':=by
 have yJ:0<=Lib.indexAny s [123,43]:=by
  rcases h with h|h
  ·exact Cae.uT s _ 43 h (by decide)
  exact Cae.uT s _ 123 h (by decide)
 refine aE Tryz.func9 rfl (by kernel_rfl) [4] rfl ?_;push_cast -dsimp(maxSteps:=4000000) [Tryz.ntmps9];refine aA (Wd s [123,43] w h8 hs (by decide) (by decide) ?_) ?_
 ·intro j b hj;match j,hj with
  | 0,e=>cases e;decide
  | 1,e=>cases e;decide
 rintro _ w1 ⟨rfl,gU⟩;push_cast -dsimp[yJ];exact gU
end Go.Proofs.YtemjejfpadnljaaGreatDoor
end
section
namespace Cae
def Dr (bS:List Int)(back:Bool)(i:Nat):List Int:=if back then (bS.take i).reverse else bS.drop i
def sK (c:aD)(S:Nat->Nat->Prop)(e:Nat):Nat->Nat->Prop
 | 0,m=>m=e
 | t+1,m=>c.ins[m]?=some ⟨2,((m+1:Nat):Int),(e:Int)⟩/\∃m',S (m+1) m'/\sK c S e t m'
section
variable (has:aw->Int->Prop) (c:aD) (back:Bool)
mutual
def iC:aG->Nat->Nat->Prop
 | .one k,a,b=>b=a+1/\∃(i:Nat) (s:List Rg),c.ins[a]?=some ⟨1,(i:Int),0⟩/\c.sets[i]?=some s/\∀p,ew s p=true↔has k p
 | .any,a,b=>b=a+1/\∃(i:Nat) (s:List Rg),c.ins[a]?=some ⟨1,(i:Int),0⟩/\c.sets[i]?=some s/\∀p,0<=p->p<=1114111->ew s p=true
 | .gg,a,b=>b=a+1/\c.ins[a]?=some ⟨4,0,0⟩
 | .cat l,a,b=>if back then nP l a b else jy l a b
 | .alt l,a,b=>lJ l a b
 | .many x lo hi,a,b=>∃m,iterM (λa b=>iC x a b) lo.toNat a m/\if hi<0 then c.ins[m]?=some ⟨2,((m+1:Nat):Int),(b:Int)⟩/\∃e,iC x (m+1) e/\c.ins[e]?=some ⟨3,(m:Int),0⟩/\b=e+1 else sK c (λa b=>iC x a b) b (hi-lo).toNat m
def jy:List aG->Nat->Nat->Prop
 | [],a,b=>a=b
 | x::l,a,b=>∃m,iC x a m/\jy l m b
def nP:List aG->Nat->Nat->Prop
 | [],a,b=>a=b
 | x::l,a,b=>∃m,nP l a m/\iC x m b
def lJ:List aG->Nat->Nat->Prop
 | [],a,b=>False
 | x::l,a,b=>(l=[]/\iC x a b)\/(l≠[]/\∃m,c.ins[a]?=some ⟨2,((a+1:Nat):Int),((m+1:Nat):Int)⟩/\iC x (a+1) m/\c.ins[m]?=some ⟨3,(b:Int),0⟩/\lJ l (m+1) b)
end
end
section
variable {has:aw->Int->Prop} {c:aD} {back:Bool} {bS:List Int}
theorem uu {i:Nat}(hi:i<=bS.length):(nM bS back i=none/\Dr bS back i=[])\/∃j p,nM bS back i=some (j,p)/\Dr bS back i=p::Dr bS back j:=by
 unfold nM Dr;cases back with
 | true =>
  simp only[if_true];by_cases h0:i=0
  ·subst h0;exact .inl ⟨by simp,by simp⟩
  rw[if_neg h0];obtain⟨k,rfl⟩:∃k,i=k+1:=⟨i-1,by omega⟩;have hk:k<bS.length:=by omega
  refine .inr ⟨k,bS[k],?_,?_⟩
  ·rw[show k+1-1=k by omega,List.getElem?_eq_getElem hk];rfl
  rw[List.take_succ_eq_append_getElem hk,List.reverse_append];rfl
 | false =>
  simp only[Bool.false_eq_true,if_false];by_cases h0:i<bS.length
  ·exact .inr ⟨i+1,bS[i],by rw[List.getElem?_eq_getElem h0];rfl,List.drop_eq_getElem_cons h0⟩
  exact .inl ⟨by rw[List.getElem?_eq_none (by omega)];rfl,List.drop_eq_nil_of_le (by omega)⟩
theorem rd_some {i j:Nat}{p:Int}(hi:i<=bS.length)(h:nM bS back i=some (j,p)):Dr bS back i=p::Dr bS back j:=by
 rcases uu (back:=back) hi with ⟨e1,_⟩|⟨k,q,e1,e2⟩
 ·rw[h]at e1;cases e1
 rw[h]at e1;cases e1;exact e2
theorem YZ {i j:Nat}{p:Int}(h:nM bS back i=some (j,p)):p∈bS:=by
 unfold nM at h;split at h
 ·split at h
  ·cases h
  cases hp:bS[i-1]? with
  | none=>rw[hp]at h;cases h
  | some q=>rw[hp]at h;cases h;exact List.mem_of_getElem? hp
 cases hp:bS[i]? with
 | none=>rw[hp]at h;cases h
 | some q=>rw[hp]at h;cases h;exact List.mem_of_getElem? hp
theorem nz {R:Nat->Nat->Prop}:∀{m n i j:Nat},iterM R (m+n) i j↔∃k,iterM R m i k/\iterM R n k j
 | 0,n,i,j=>by rw[Nat.zero_add];exact⟨λh=>⟨i,rfl,h⟩,λ⟨k,h1,h2⟩=>by cases h1;exact h2⟩
 | m+1,n,i,j=>by
  rw[show m+1+n=(m+n)+1 by omega]
  constructor
  ·rintro⟨a,h1,h2⟩;obtain⟨k,h3,h4⟩:=nz.1 h2;exact⟨k,⟨a,h1,h3⟩,h4⟩
  rintro⟨k,⟨a,h1,h3⟩,h4⟩;exact⟨a,h1,nz.2 ⟨k,h3,h4⟩⟩
def Fw (c:aD)(bS:List Int)(back:Bool)(S R:Nat->Nat->Prop):Prop:=∀a b i h,S a b->i<=bS.length->dH c h a (Dr bS back i)->∃j h',j<=bS.length/\h'<=h/\R i j/\dH c h' b (Dr bS back j)
def Bw (c:aD)(bS:List Int)(back:Bool)(S R:Nat->Nat->Prop):Prop:=∀a b i j,S a b->i<=bS.length->R i j->Acc c b (Dr bS back j)->Acc c a (Dr bS back i)
theorem DM {h a:Nat}{ps:List Int}{i:Int}(hx:c.ins[a]?=some ⟨1,i,0⟩)(hh:dH c h a ps):∃h' p r,h'+1=h/\ps=p::r/\ew (c.sets.getD i.toNat []) p=true/\dH c h' (a+1) r:=by
 cases h with
 | zero=>exact hh.elim
 | succ h =>
  rw[dH,hx]at hh;dsimp only at hh;rw[if_neg (by decide),if_neg (by decide),if_neg (by decide),if_neg (by decide)]at hh;cases ps with
  | nil=>exact hh.elim
  | cons p r=>exact⟨h,p,r,rfl,rfl,hh.1,hh.2⟩
theorem sQ {h a:Nat}{ps:List Int}{i j:Int}(hx:c.ins[a]?=some ⟨2,i,j⟩)(hh:dH c h a ps):∃h',h'+1=h/\(dH c h' i.toNat ps\/dH c h' j.toNat ps):=by
 cases h with
 | zero=>exact hh.elim
 | succ h =>
  rw[dH,hx]at hh;dsimp only at hh;rw[if_neg (by decide),if_pos rfl]at hh;exact⟨h,rfl,hh⟩
theorem DL {h a:Nat}{ps:List Int}{i:Int}(hx:c.ins[a]?=some ⟨3,i,0⟩)(hh:dH c h a ps):∃h',h'+1=h/\dH c h' i.toNat ps:=by
 cases h with
 | zero=>exact hh.elim
 | succ h =>
  rw[dH,hx]at hh;dsimp only at hh;rw[if_neg (by decide),if_neg (by decide),if_pos rfl]at hh;exact⟨h,rfl,hh⟩
theorem T9 {h a:Nat}{ps:List Int}(hx:c.ins[a]?=some ⟨4,0,0⟩)(hh:dH c h a ps):∃h',h'+1=h/\ps=[]/\dH c h' (a+1) ps:=by
 cases h with
 | zero=>exact hh.elim
 | succ h =>
  rw[dH,hx]at hh;dsimp only at hh;rw[if_neg (by decide),if_neg (by decide),if_neg (by decide),if_pos rfl]at hh;exact⟨h,rfl,hh.1,hh.2⟩
theorem OA {S R:Nat->Nat->Prop}(hF:Fw c bS back S R):∀n,Fw c bS back (iterM S n) (iterM R n)
 | 0,a,b,i,h,hs,hi,hh=>by cases hs;exact⟨i,h,hi,Nat.le_refl _,rfl,hh⟩
 | n+1,a,b,i,h,⟨m,h1,h2⟩,hi,hh=>by
  obtain⟨j,h',hj,hle,hr,DZ⟩:=hF a m i h h1 hi hh;obtain⟨k,Ve,hk,Qi,jK,uK⟩:=OA hF n m b j h' h2 hj DZ;exact⟨k,Ve,hk,by omega,⟨j,hr,jK⟩,uK⟩
theorem Nz {S R:Nat->Nat->Prop}(hle:∀i j,i<=bS.length->R i j->j<=bS.length)(hB:Bw c bS back S R):∀n,Bw c bS back (iterM S n) (iterM R n)
 | 0,a,b,i,j,hs,hi,hr,hh=>by cases hs;cases hr;exact hh
 | n+1,a,b,i,j,⟨m,h1,h2⟩,hi,⟨k,r1,r2⟩,hh=>hB a m i k h1 hi r1 (Nz hle hB n m b k j h2 (hle _ _ hi r1) r2 hh)
theorem aC4 {S R:Nat->Nat->Prop}{e:Nat}(hF:Fw c bS back S R):∀t m i h,sK c S e t m->i<=bS.length->dH c h m (Dr bS back i)->∃n j h',n<=t/\j<=bS.length/\h'<=h/\iterM R n i j/\dH c h' e (Dr bS back j)
 | 0,m,i,h,hs,hi,hh=>by cases hs;exact⟨0,i,h,Nat.le_refl _,hi,Nat.le_refl _,rfl,hh⟩
 | t+1,m,i,h,hs,hi,hh=>by
  obtain⟨hx,m',h1,h2⟩:=hs;obtain⟨h0,rfl,hq⟩:=sQ hx hh;rw[Int.toNat_natCast,Int.toNat_natCast]at hq;rcases hq with hh|hh
  ·obtain⟨j,h',hj,hle,hr,DZ⟩:=hF (m+1) m' i h0 h1 hi hh;obtain⟨n,k,Ve,hn,hk,Qi,jK,uK⟩:=aC4 hF t m' j h' h2 hj DZ;exact⟨n+1,k,Ve,by omega,hk,by omega,⟨j,hr,jK⟩,uK⟩
  exact⟨0,i,h0,by omega,hi,by omega,rfl,hh⟩
theorem aC3 {S R:Nat->Nat->Prop}{e:Nat}(hle:∀i j,i<=bS.length->R i j->j<=bS.length)(hB:Bw c bS back S R):∀t m i j n,sK c S e t m->i<=bS.length->n<=t->iterM R n i j->Acc c e (Dr bS back j)->Acc c m (Dr bS back i)
 | 0,m,i,j,n,hs,hi,hn,hr,hh=>by
  obtain rfl:n=0:=by omega
  cases hs;cases hr;exact hh
 | t+1,m,i,j,n,hs,hi,hn,hr,hh=>by
  obtain⟨hx,m',h1,h2⟩:=hs;refine(fC hx rfl).2 ?_;simp only[Int.toNat_natCast];cases n with
  | zero=>cases hr;exact .inr hh
  | succ n =>
   obtain⟨k,r1,r2⟩:=hr;exact .inl (hB (m+1) m' i k h1 hi r1 (aC3 hle hB t m' k j n h2 (hle _ _ hi r1) (by omega) r2 hh))
theorem aBX {S R:Nat->Nat->Prop}{m e b:Nat}(hF:Fw c bS back S R)(hx:c.ins[m]?=some ⟨2,((m+1:Nat):Int),(b:Int)⟩)(hS:S (m+1) e)(hj:c.ins[e]?=some ⟨3,(m:Int),0⟩):∀h i,i<=bS.length->dH c h m (Dr bS back i)->∃n j h',j<=bS.length/\h'<=h/\iterM R n i j/\dH c h' b (Dr bS back j):=by
 intro h;induction h using Nat.strongRecOn with
 | ind h ih =>
  intro i hi hh;obtain⟨h0,rfl,hq⟩:=sQ hx hh;rw[Int.toNat_natCast,Int.toNat_natCast]at hq;rcases hq with hh|hh
  ·obtain⟨j,h1,hj',hle,hr,DZ⟩:=hF (m+1) e i h0 hS hi hh;obtain⟨h2,rfl,uK⟩:=DL hj DZ;rw[Int.toNat_natCast]at uK;obtain⟨n,k,h3,hk,Qi,jK,hh3⟩:=ih h2 (by omega) j hj' uK;exact⟨n+1,k,h3,hk,by omega,⟨j,hr,jK⟩,hh3⟩
  exact⟨0,i,h0,hi,by omega,rfl,hh⟩
theorem Oh {S R:Nat->Nat->Prop}{m e b:Nat}(hle:∀i j,i<=bS.length->R i j->j<=bS.length)(hB:Bw c bS back S R)(hx:c.ins[m]?=some ⟨2,((m+1:Nat):Int),(b:Int)⟩)(hS:S (m+1) e)(hj:c.ins[e]?=some ⟨3,(m:Int),0⟩):∀n i j,i<=bS.length->iterM R n i j->Acc c b (Dr bS back j)->Acc c m (Dr bS back i)
 | 0,i,j,hi,hr,hh=>by
  cases hr;exact(fC hx rfl).2 (.inr (by simpa only[Int.toNat_natCast] using hh))
 | n+1,i,j,hi,⟨k,r1,r2⟩,hh=>by
  refine(fC hx rfl).2 (.inl ?_);simp only[Int.toNat_natCast];refine hB (m+1) e i k hS hi r1 ((gH hj rfl).2 ?_);simp only[Int.toNat_natCast];exact Oh hle hB hx hS hj n k j (hle _ _ hi r1) r2 hh
theorem zl {i:Nat}{s:List Rg}(h:c.sets[i]?=some s):c.sets.getD ((i:Int)).toNat []=s:=by
 rw[Int.toNat_natCast,List.getD_eq_getElem?_getD,h];rfl
mutual
theorem qu:∀(back:Bool) (x:aG),bI x->Fw c bS back (iC has c back x) (pY has bS back x)
 | back,.one k,_,a,b,i,h,hs,hi,hh=>by
  simp only[iC]at hs;obtain⟨rfl,q,s,hx,hq,hp⟩:=hs;obtain⟨h',p,r,rfl,e,h1,h2⟩:=DM hx hh;rw[zl hq]at h1;rcases uu (back:=back) hi with ⟨_,e2⟩|⟨j,p',e1,e2⟩
  ·rw[e2]at e;cases e
  rw[e2]at e;cases e;exact⟨j,h',vE e1 hi,by omega,by simp only[pY];exact⟨_,e1,(hp _).1 h1⟩,h2⟩
 | back,.any,_,a,b,i,h,hs,hi,hh=>by
  simp only[iC]at hs;obtain⟨rfl,q,s,hx,hq,hp⟩:=hs;obtain⟨h',p,r,rfl,e,h1,h2⟩:=DM hx hh;rcases uu (back:=back) hi with ⟨_,e2⟩|⟨j,p',e1,e2⟩
  ·rw[e2]at e;cases e
  rw[e2]at e;cases e;exact⟨j,h',vE e1 hi,by omega,by simp only[pY];exact⟨_,e1⟩,h2⟩
 | back,.gg,_,a,b,i,h,hs,hi,hh=>by
  simp only[iC]at hs;obtain⟨rfl,hx⟩:=hs;obtain⟨h',rfl,e,h2⟩:=T9 hx hh;rcases uu (back:=back) hi with ⟨e1,e2⟩|⟨j,p',e1,e2⟩
  ·exact⟨i,h',hi,by omega,by simp only[pY];exact⟨trivial,e1⟩,h2⟩
  rw[e2]at e;cases e
 | back,.cat l,bU,a,b,i,h,hs,hi,hh=>by
  simp only[bI]at bU;simp only[iC]at hs;simp only[pY];cases back with
  | true=>exact Ob l bU a b i h hs hi hh
  | false=>exact Od l bU a b i h hs hi hh
 | back,.alt l,bU,a,b,i,h,hs,hi,hh=>by
  simp only[bI]at bU;simp only[iC]at hs;simp only[pY];exact O9 back l bU a b i h hs hi hh
 | back,.many x lo yF,bU,a,b,i,h,hs,hi,hh=>by
  simp only[bI]at bU;simp only[iC]at hs;simp only[J8];obtain⟨m,h1,h2⟩:=hs;obtain⟨j,h',hj,hle,hr,DZ⟩:=OA (qu back x bU.1) lo.toNat a m i h h1 hi hh;split at h2
  ·rename_i Ih;obtain⟨hx,e,hS,Lm,rfl⟩:=h2;obtain⟨n,k,Ve,hk,Qi,jK,uK⟩:=aBX (qu back x bU.1) hx hS Lm h' j hj DZ;exact⟨k,Ve,hk,by omega,⟨lo.toNat+n,by omega,.inl Ih,nz.2 ⟨j,hr,jK⟩⟩,uK⟩
  rename_i Ih;obtain⟨n,k,Ve,hn,hk,Qi,jK,uK⟩:=aC4 (qu back x bU.1) (yF-lo).toNat m j h' h2 hj DZ;exact⟨k,Ve,hk,by omega,⟨lo.toNat+n,by omega,.inr (by omega),nz.2 ⟨j,hr,jK⟩⟩,uK⟩
theorem Od:∀l:List aG,cQ l->Fw c bS false (jy has c false l) (xo has bS false l)
 | [],_,a,b,i,h,hs,hi,hh=>by simp only[jy]at hs;subst hs;exact⟨i,h,hi,Nat.le_refl _,by simp only[xo],hh⟩
 | x::l,bU,a,b,i,h,hs,hi,hh=>by
  simp only[cQ]at bU;simp only[jy]at hs;obtain⟨m,h1,h2⟩:=hs;obtain⟨j,h',hj,hle,hr,DZ⟩:=qu false x bU.1 a m i h h1 hi hh;obtain⟨k,Ve,hk,Qi,jK,uK⟩:=Od l bU.2 m b j h' h2 hj DZ;exact⟨k,Ve,hk,by omega,by simp only[xo];exact⟨j,hr,jK⟩,uK⟩
theorem Ob:∀l:List aG,cQ l->Fw c bS true (nP has c true l) (xm has bS true l)
 | [],_,a,b,i,h,hs,hi,hh=>by simp only[nP]at hs;subst hs;exact⟨i,h,hi,Nat.le_refl _,by simp only[xm],hh⟩
 | x::l,bU,a,b,i,h,hs,hi,hh=>by
  simp only[cQ]at bU;simp only[nP]at hs;obtain⟨m,h1,h2⟩:=hs;obtain⟨j,h',hj,hle,hr,DZ⟩:=Ob l bU.2 a m i h h1 hi hh;obtain⟨k,Ve,hk,Qi,jK,uK⟩:=qu true x bU.1 m b j h' h2 hj DZ;exact⟨k,Ve,hk,by omega,by simp only[xm];exact⟨j,hr,jK⟩,uK⟩
theorem O9:∀(back:Bool) (l:List aG),cQ l->Fw c bS back (lJ has c back l) (CK has bS back l)
 | _,[],_,a,b,i,h,hs,hi,hh=>by simp only[lJ]at hs
 | back,x::l,bU,a,b,i,h,hs,hi,hh=>by
  simp only[cQ]at bU;simp only[lJ]at hs;simp only[CK];rcases hs with ⟨rfl,hs⟩|⟨_,m,hx,h1,hj,h2⟩
  ·obtain⟨j,h',hj,hle,hr,DZ⟩:=qu back x bU.1 a b i h hs hi hh;exact⟨j,h',hj,hle,.inl hr,DZ⟩
  obtain⟨h0,rfl,hq⟩:=sQ hx hh;rw[Int.toNat_natCast,Int.toNat_natCast]at hq;rcases hq with hh|hh
  ·obtain⟨j,h',hj',hle,hr,DZ⟩:=qu back x bU.1 (a+1) m i h0 h1 hi hh;obtain⟨h3,rfl,hh3⟩:=DL hj DZ;rw[Int.toNat_natCast]at hh3;exact⟨j,h3,hj',by omega,.inl hr,hh3⟩
  obtain⟨j,h',hj',hle,hr,DZ⟩:=O9 back l bU.2 (m+1) b i h0 h2 hi hh;exact⟨j,h',hj',by omega,.inr hr,DZ⟩
end
mutual
theorem qt (vL:∀p∈bS,0<=p/\p<=1114111):∀(back:Bool) (x:aG),bI x->Bw c bS back (iC has c back x) (pY has bS back x)
 | back,.one k,_,a,b,i,j,hs,hi,hr,hh=>by
  simp only[iC]at hs;simp only[pY]at hr;obtain⟨rfl,q,s,hx,hq,hp⟩:=hs;obtain⟨p,e1,h1⟩:=hr;refine(gd hx ⟨by simp,by simp,by simp,by simp⟩).2 ⟨p,_,rd_some hi e1,?_,hh⟩;dsimp only;rw[zl hq];exact(hp p).2 h1
 | back,.any,_,a,b,i,j,hs,hi,hr,hh=>by
  simp only[iC]at hs;simp only[pY]at hr;obtain⟨rfl,q,s,hx,hq,hp⟩:=hs;obtain⟨p,e1⟩:=hr;refine(gd hx ⟨by simp,by simp,by simp,by simp⟩).2 ⟨p,_,rd_some hi e1,?_,hh⟩;dsimp only;rw[zl hq]
  have:=vL p (YZ e1);exact hp p this.1 this.2
 | back,.gg,_,a,b,i,j,hs,hi,hr,hh=>by
  simp only[iC]at hs;simp only[pY]at hr;obtain⟨rfl,hx⟩:=hs;obtain⟨rfl,e1⟩:=hr;rcases uu (back:=back) hi with ⟨_,e2⟩|⟨j,p',e3,e2⟩
  ·exact(mo hx rfl).2 ⟨e2,hh⟩
  rw[e1]at e3;cases e3
 | back,.cat l,bU,a,b,i,j,hs,hi,hr,hh=>by
  simp only[bI]at bU;simp only[iC]at hs;simp only[pY]at hr;cases back with
  | true=>exact Oa vL l bU a b i j hs hi hr hh
  | false=>exact Oc vL l bU a b i j hs hi hr hh
 | back,.alt l,bU,a,b,i,j,hs,hi,hr,hh=>by
  simp only[bI]at bU;simp only[iC]at hs;simp only[pY]at hr;exact O8 vL back l bU a b i j hs hi hr hh
 | back,.many x lo yF,bU,a,b,i,j,hs,hi,hr,hh=>by
  simp only[bI]at bU;simp only[iC]at hs;simp only[J8]at hr;obtain⟨m,h1,h2⟩:=hs;obtain⟨n,hn1,Yw,hr⟩:=hr;have hle:∀i j,i<=bS.length->pY has bS back x i j->j<=bS.length:=λi j=>wB x;rw[show n=lo.toNat+(n-lo.toNat) by omega]at hr
  obtain⟨k,r1,r2⟩:=nz.1 hr;have hk:k<=bS.length:=AS hle hi r1;refine Nz hle (qt vL back x bU.1) lo.toNat a m i k h1 hi r1 ?_;split at h2
  ·obtain⟨hx,e,hS,Lm,rfl⟩:=h2;exact Oh hle (qt vL back x bU.1) hx hS Lm _ k j hk r2 hh
  exact aC3 hle (qt vL back x bU.1) _ m k j _ h2 hk (by omega) r2 hh
theorem Oc (vL:∀p∈bS,0<=p/\p<=1114111):∀l:List aG,cQ l->Bw c bS false (jy has c false l) (xo has bS false l)
 | [],_,a,b,i,j,hs,hi,hr,hh=>by simp only[jy]at hs;simp only[xo]at hr;subst hs;subst hr;exact hh
 | x::l,bU,a,b,i,j,hs,hi,hr,hh=>by
  simp only[cQ]at bU;simp only[jy]at hs;simp only[xo]at hr;obtain⟨m,h1,h2⟩:=hs;obtain⟨k,r1,r2⟩:=hr;exact qt vL false x bU.1 a m i k h1 hi r1 (Oc vL l bU.2 m b k j h2 (wB x hi r1) r2 hh)
theorem Oa (vL:∀p∈bS,0<=p/\p<=1114111):∀l:List aG,cQ l->Bw c bS true (nP has c true l) (xm has bS true l)
 | [],_,a,b,i,j,hs,hi,hr,hh=>by simp only[nP]at hs;simp only[xm]at hr;subst hs;subst hr;exact hh
 | x::l,bU,a,b,i,j,hs,hi,hr,hh=>by
  simp only[cQ]at bU;simp only[nP]at hs;simp only[xm]at hr;obtain⟨m,h1,h2⟩:=hs;obtain⟨k,r1,r2⟩:=hr;exact Oa vL l bU.2 a m i k h1 hi r1 (qt vL true x bU.1 m b k j h2 (Gf l hi r1) r2 hh)
theorem O8 (vL:∀p∈bS,0<=p/\p<=1114111):∀(back:Bool) (l:List aG),cQ l->Bw c bS back (lJ has c back l) (CK has bS back l)
 | _,[],_,a,b,i,j,hs,hi,hr,hh=>by simp only[lJ]at hs
 | back,x::l,bU,a,b,i,j,hs,hi,hr,hh=>by
  simp only[cQ]at bU;simp only[lJ]at hs;simp only[CK]at hr;rcases hs with ⟨rfl,hs⟩|⟨_,m,hx,h1,hj,h2⟩
  ·rcases hr with hr|hr
   ·exact qt vL back x bU.1 a b i j hs hi hr hh
   simp only[CK]at hr
  refine(fC hx rfl).2 ?_;simp only[Int.toNat_natCast];rcases hr with hr|hr
  ·exact .inl (qt vL back x bU.1 (a+1) m i j h1 hi hr ((gH hj rfl).2 (by simpa only[Int.toNat_natCast] using hh)))
  exact .inr (O8 vL back l bU.2 (m+1) b i j h2 hi hr hh)
end
theorem Mg (vL:∀p∈bS,0<=p/\p<=1114111){x:aG}{b i:Nat}(bU:bI x)(hs:iC has c back x 0 b)(hy:c.ins[b]?=some ⟨5,0,0⟩)(hi:i<=bS.length):Acc c 0 (Dr bS back i)↔lW has bS x i back:=by
 constructor
 ·rintro⟨h,hh⟩;obtain⟨j,h',_,_,hr,_⟩:=qu back x bU 0 b i h hs hi hh;exact⟨j,hr⟩
 rintro⟨j,hr⟩;exact qt vL back x bU 0 b i j hs hi hr (lK hy rfl)
end
mutual
def bF:aG->Nat
 | .one _=>1
 | .any=>1
 | .gg=>1
 | .cat l=>bh l
 | .alt l=>fG l
 | .many x lo hi=>lo.toNat*bF x+if hi<0 then bF x+2 else (hi-lo).toNat*(bF x+1)
def bh:List aG->Nat
 | []=>0
 | x::l=>bF x+bh l
def fG:List aG->Nat
 | []=>0
 | x::l=>if l=[] then bF x else bF x+2+fG l
end
section
variable {has:aw->Int->Prop} {c c':aD} {back:Bool}
theorem qV {S:Nat->Nat->Prop}{k:Nat}(h:∀a b,S a b->b=a+k):∀n a b,iterM S n a b->b=a+n*k
 | 0,a,b,e=>by cases e;simp
 | n+1,a,b,⟨m,h1,h2⟩=>by
  have:=h a m h1
  have:=qV h n m b h2;rw[Nat.succ_mul];omega
theorem vn {S:Nat->Nat->Prop}{k e:Nat}(h:∀a b,S a b->b=a+k):∀t m,sK c S e t m->e=m+t*(k+1)
 | 0,m,e=>by cases e;simp
 | t+1,m,⟨_,m',h1,h2⟩=>by
  have:=h _ m' h1
  have:=vn h t m' h2;rw[Nat.succ_mul];omega
mutual
theorem fN:∀(x:aG) (a b:Nat),iC has c back x a b->b=a+bF x
 | .one k,a,b,h=>by simp only[iC]at h;exact h.1
 | .any,a,b,h=>by simp only[iC]at h;exact h.1
 | .gg,a,b,h=>by simp only[iC]at h;exact h.1
 | .cat l,a,b,h=>by
  simp only[iC]at h;split at h
  ·exact BI l a b h
  exact uy l a b h
 | .alt l,a,b,h=>by simp only[iC]at h;exact ux l a b h
 | .many x lo hi,a,b,h=>by
  simp only[iC]at h;obtain⟨m,h1,h2⟩:=h;have e1:=qV (λa b=>fN x a b) _ _ _ h1;simp only[bF];split at h2
  ·rename_i hn;obtain⟨_,e,h3,_,rfl⟩:=h2;have e2:=fN x _ _ h3;rw[if_pos hn];omega
  rename_i hn;have e2:=vn (λa b=>fN x a b) _ _ h2;rw[if_neg hn];omega
theorem uy:∀(l:List aG) (a b:Nat),jy has c back l a b->b=a+bh l
 | [],a,b,h=>by simp only[jy]at h;simp only[bh];omega
 | x::l,a,b,h=>by
  simp only[jy]at h;obtain⟨m,h1,h2⟩:=h;have e1:=fN x _ _ h1;have e2:=uy l _ _ h2;simp only[bh];omega
theorem BI:∀(l:List aG) (a b:Nat),nP has c back l a b->b=a+bh l
 | [],a,b,h=>by simp only[nP]at h;simp only[bh];omega
 | x::l,a,b,h=>by
  simp only[nP]at h;obtain⟨m,h1,h2⟩:=h;have e1:=BI l _ _ h1;have e2:=fN x _ _ h2;simp only[bh];omega
theorem ux:∀(l:List aG) (a b:Nat),lJ has c back l a b->b=a+fG l
 | [],a,b,h=>by simp only[lJ]at h
 | x::l,a,b,h=>by
  simp only[lJ]at h;simp only[fG];rcases h with ⟨rfl,h⟩|⟨cW,m,_,h1,_,h2⟩
  ·rw[if_pos rfl];exact fN x _ _ h
  have e1:=fN x _ _ h1;have e2:=ux l _ _ h2;rw[if_neg cW];omega
end
def eK (c c':aD)(a b:Nat):Prop:=(∀k,a<=k->k<b->c'.ins[k]?=c.ins[k]?)/\∀(i:Nat) (s:List Rg),c.sets[i]?=some s->c'.sets[i]?=some s
theorem eK.sub {a b a' b':Nat}(h:eK c c' a b)(h1:a<=a')(h2:b'<=b):eK c c' a' b':=⟨λk h3 h4=>h.1 k (by omega) (by omega),h.2⟩
theorem lj {S S':Nat->Nat->Prop}{k A B:Nat}(hl:∀a b,S a b->b=a+k)(h:∀a b,A<=a->b<=B->S a b->S' a b):∀n a b,A<=a->b<=B->iterM S n a b->iterM S' n a b
 | 0,a,b,_,_,e=>e
 | n+1,a,b,ha,hb,⟨m,h1,h2⟩=>by
  have e1:=hl a m h1;have e2:=qV hl n m b h2;exact⟨m,h a m ha (by omega) h1,lj hl h n m b (by omega) hb h2⟩
theorem Nj {S S':Nat->Nat->Prop}{k A B:Nat}(hl:∀a b,S a b->b=a+k)(h:∀a b,A<=a->b<=B->S a b->S' a b)(hc:∀k,A<=k->k<B->c'.ins[k]?=c.ins[k]?):∀t m,A<=m->sK c S B t m->sK c' S' B t m
 | 0,m,_,e=>e
 | t+1,m,hm,⟨hx,m',h1,h2⟩=>by
  have e1:=hl _ m' h1;have e2:=vn hl t m' h2;exact⟨by rw[hc m hm (by omega)];exact hx,m',h _ _ (by omega) (by omega) h1,Nj hl h hc t m' (by omega) h2⟩
mutual
theorem dT:∀(x:aG) (a b:Nat),eK c c' a b->iC has c back x a b->iC has c' back x a b
 | .one k,a,b,hs,h=>by
  simp only[iC]at h ⊢
  obtain⟨rfl,i,s,h1,h2,h3⟩:=h;exact⟨rfl,i,s,by rw[hs.1 a (by omega) (by omega)];exact h1,hs.2 i s h2,h3⟩
 | .any,a,b,hs,h=>by
  simp only[iC]at h ⊢
  obtain⟨rfl,i,s,h1,h2,h3⟩:=h;exact⟨rfl,i,s,by rw[hs.1 a (by omega) (by omega)];exact h1,hs.2 i s h2,h3⟩
 | .gg,a,b,hs,h=>by
  simp only[iC]at h ⊢
  obtain⟨rfl,h1⟩:=h;exact⟨rfl,by rw[hs.1 a (by omega) (by omega)];exact h1⟩
 | .cat l,a,b,hs,h=>by
  simp only[iC]at h ⊢
  by_cases hb:back=true
  ·rw[if_pos hb]at h ⊢;exact wF l a b hs h
  rw[if_neg hb]at h ⊢;exact wG l a b hs h
 | .alt l,a,b,hs,h=>by simp only[iC]at h ⊢;exact EB l a b hs h
 | .many x lo hi,a,b,hs,h=>by
  simp only[iC]at h ⊢
  obtain⟨m,h1,h2⟩:=h;have hl:=λa b=>fN (has:=has) (c:=c) (back:=back) x a b;have e1:=qV hl _ _ _ h1;split at h2
  ·rename_i hn;obtain⟨hx,e,h3,h4,rfl⟩:=h2;have e2:=hl _ _ h3;refine⟨m,lj (A:=a) (B:=e+1) hl (λp q hp hq=>dT x p q (hs.sub hp hq)) _ _ _ (Nat.le_refl _) (by omega) h1,?_⟩;rw[if_pos hn];exact⟨by rw[hs.1 m (by omega) (by omega)];exact hx,e,dT x _ _ (hs.sub (by omega) (by omega)) h3,by rw[hs.1 e (by omega) (by omega)];exact h4,rfl⟩
  rename_i hn;have e2:=vn hl _ _ h2;refine⟨m,lj (A:=a) (B:=b) hl (λp q hp hq=>dT x p q (hs.sub hp hq)) _ _ _ (Nat.le_refl _) (by omega) h1,?_⟩;rw[if_neg hn];exact Nj (A:=m) hl (λp q hp hq=>dT x p q (hs.sub (by omega) hq)) (λk h3 h4=>hs.1 k (by omega) h4) _ _ (Nat.le_refl _) h2
theorem wG:∀(l:List aG) (a b:Nat),eK c c' a b->jy has c back l a b->jy has c' back l a b
 | [],a,b,hs,h=>by simp only[jy]at h ⊢;exact h
 | x::l,a,b,hs,h=>by
  simp only[jy]at h ⊢
  obtain⟨m,h1,h2⟩:=h;have e1:=fN x _ _ h1;have e2:=uy l _ _ h2;exact⟨m,dT x _ _ (hs.sub (by omega) (by omega)) h1,wG l _ _ (hs.sub (by omega) (by omega)) h2⟩
theorem wF:∀(l:List aG) (a b:Nat),eK c c' a b->nP has c back l a b->nP has c' back l a b
 | [],a,b,hs,h=>by simp only[nP]at h ⊢;exact h
 | x::l,a,b,hs,h=>by
  simp only[nP]at h ⊢
  obtain⟨m,h1,h2⟩:=h;have e1:=BI l _ _ h1;have e2:=fN x _ _ h2;exact⟨m,wF l _ _ (hs.sub (by omega) (by omega)) h1,dT x _ _ (hs.sub (by omega) (by omega)) h2⟩
theorem EB:∀(l:List aG) (a b:Nat),eK c c' a b->lJ has c back l a b->lJ has c' back l a b
 | [],a,b,hs,h=>by simp only[lJ]at h
 | x::l,a,b,hs,h=>by
  simp only[lJ]at h ⊢
  rcases h with ⟨rfl,h⟩|⟨cW,m,hx,h1,hj,h2⟩
  ·exact .inl ⟨rfl,dT x _ _ hs h⟩
  have e1:=fN x _ _ h1;have e2:=ux l _ _ h2;exact .inr ⟨cW,m,by rw[hs.1 a (by omega) (by omega)];exact hx,dT x _ _ (hs.sub (by omega) (by omega)) h1,by rw[hs.1 m (by omega) (by omega)];exact hj,EB l _ _ (hs.sub (by omega) (by omega)) h2⟩
end
def de (c:aD)(a b n:Nat):Prop:=∀k,a<=k->k<b->∃x,c.ins[k]?=some x/\bJ x c.sets.length n=true
theorem de.join {a b d n:Nat}(h1:de c a b n)(h2:de c b d n):de c a d n:=λk h3 h4=>by
 by_cases h:k<b
 ·exact h1 k h3 h
 exact h2 k (by omega) h4
theorem de.one {a n:Nat}{x:I3}(h:c.ins[a]?=some x)(hr:bJ x c.sets.length n=true):de c a (a+1) n:=λk h1 h2=>by
 obtain rfl:k=a:=by omega
 exact⟨x,h,hr⟩
theorem qp {a b s n:Nat}(h1:a<n)(h2:b<n):bJ ⟨2,(a:Int),(b:Int)⟩ s n=true:=by
 unfold bJ;rw[if_neg (by simp),if_pos rfl,decide_eq_true_iff];dsimp only;omega
theorem Az {a s n:Nat}(h1:a<n):bJ ⟨3,(a:Int),0⟩ s n=true:=by
 unfold bJ;rw[if_neg (by simp),if_neg (by simp),if_pos rfl,decide_eq_true_iff];dsimp only;omega
theorem BA {a s n:Nat}(h1:a<s):bJ ⟨1,(a:Int),0⟩ s n=true:=by
 unfold bJ;rw[if_pos rfl,decide_eq_true_iff];dsimp only;omega
theorem SP {s n:Int}:bJ ⟨4,0,0⟩ s n=true:=by
 unfold bJ;rw[if_neg (by decide),if_neg (by decide),if_neg (by decide),if_pos (by decide)];rfl
theorem SQ {s n:Int}:bJ ⟨5,0,0⟩ s n=true:=by
 unfold bJ;rw[if_neg (by decide),if_neg (by decide),if_neg (by decide),if_pos (by decide)];rfl
theorem su {S:Nat->Nat->Prop}{k n:Nat}(hl:∀a b,S a b->b=a+k)(h:∀a b,b<n->S a b->de c a b n):∀t a b,b<n->iterM S t a b->de c a b n
 | 0,a,b,_,e=>by cases e;intro k h1 h2;omega
 | t+1,a,b,hb,⟨m,h1,h2⟩=>by
  have e2:=qV hl t m b h2;exact(h a m (by omega) h1).join (su hl h t m b hb h2)
theorem I5 {S:Nat->Nat->Prop}{k e n:Nat}(hl:∀a b,S a b->b=a+k)(h:∀a b,b<n->S a b->de c a b n)(he:e<n):∀t m,sK c S e t m->de c m e n
 | 0,m,e=>by cases e;intro k h1 h2;omega
 | t+1,m,⟨hx,m',h1,h2⟩=>by
  have e1:=hl _ m' h1;have e2:=vn hl t m' h2;exact(de.one hx (qp (by omega) he)).join ((h _ m' (by omega) h1).join (I5 hl h he t m' h2))
mutual
theorem iA:∀(x:aG) (a b n:Nat),b<n->iC has c back x a b->de c a b n
 | .one k,a,b,n,hn,h=>by
  simp only[iC]at h;obtain⟨rfl,i,s,h1,h2,h3⟩:=h;exact de.one h1 (BA (List.getElem?_eq_some_iff.1 h2).1)
 | .any,a,b,n,hn,h=>by
  simp only[iC]at h;obtain⟨rfl,i,s,h1,h2,h3⟩:=h;exact de.one h1 (BA (List.getElem?_eq_some_iff.1 h2).1)
 | .gg,a,b,n,hn,h=>by
  simp only[iC]at h;obtain⟨rfl,h1⟩:=h;exact de.one h1 SP
 | .cat l,a,b,n,hn,h=>by
  simp only[iC]at h;split at h
  ·exact BJ l a b n hn h
  exact BK l a b n hn h
 | .alt l,a,b,n,hn,h=>by simp only[iC]at h;exact BH l a b n hn h
 | .many x lo hi,a,b,n,hn,h=>by
  simp only[iC]at h;obtain⟨m,h1,h2⟩:=h;have hl:=λa b=>fN (has:=has) (c:=c) (back:=back) x a b;split at h2
  ·obtain⟨hx,e,h3,h4,rfl⟩:=h2;have e2:=hl _ _ h3;exact(su hl (λp q hq=>iA x p q n hq) _ _ _ (by omega) h1).join ((de.one hx (qp (by omega) (by omega))).join ((iA x _ _ n (by omega) h3).join (de.one h4 (Az (by omega)))))
  have e2:=vn hl _ _ h2;exact(su hl (λp q hq=>iA x p q n hq) _ _ _ (by omega) h1).join (I5 hl (λp q hq=>iA x p q n hq) hn _ _ h2)
theorem BK:∀(l:List aG) (a b n:Nat),b<n->jy has c back l a b->de c a b n
 | [],a,b,n,hn,h=>by simp only[jy]at h;subst h;intro k h1 h2;omega
 | x::l,a,b,n,hn,h=>by
  simp only[jy]at h;obtain⟨m,h1,h2⟩:=h;have e2:=uy l _ _ h2;exact(iA x _ _ n (by omega) h1).join (BK l _ _ n hn h2)
theorem BJ:∀(l:List aG) (a b n:Nat),b<n->nP has c back l a b->de c a b n
 | [],a,b,n,hn,h=>by simp only[nP]at h;subst h;intro k h1 h2;omega
 | x::l,a,b,n,hn,h=>by
  simp only[nP]at h;obtain⟨m,h1,h2⟩:=h;have e2:=fN x _ _ h2;exact(BJ l _ _ n (by omega) h1).join (iA x _ _ n hn h2)
theorem BH:∀(l:List aG) (a b n:Nat),b<n->lJ has c back l a b->de c a b n
 | [],a,b,n,hn,h=>by simp only[lJ]at h
 | x::l,a,b,n,hn,h=>by
  simp only[lJ]at h;rcases h with ⟨rfl,h⟩|⟨cW,m,hx,h1,hj,h2⟩
  ·exact iA x _ _ n hn h
  have e1:=fN x _ _ h1;have e2:=ux l _ _ h2;exact(de.one hx (qp (by omega) (by omega))).join ((iA x _ _ n (by omega) h1).join ((de.one hj (Az hn)).join (BH l _ _ n hn h2)))
end
end
mutual
def cO:aG->Prop
 | .one _=>True
 | .any=>True
 | .gg=>True
 | .cat l=>gA l
 | .alt l=>l≠[]/\gA l
 | .many x _ _=>cO x
def gA:List aG->Prop
 | []=>True
 | x::l=>cO x/\gA l
end
theorem ql:∀{l:List aG} {x:aG},gA l->cO x->gA (l++[x])
 | [],x,_,h=>by simp only[List.nil_append,gA];exact⟨h,trivial⟩
 | y::l,x,hl,h=>by
  simp only[gA,List.cons_append]at hl ⊢
  exact⟨hl.1,ql hl.2 h⟩
theorem uh (d:Nat):∀(n c:Nat) (x:aG),cO x->Iv cO (bW d n c x)
 | 0,_,_,_=>Iv.fail
 | n+1,c,x,hx=>Iv.pb D8 λr hr=>by
   cases r with
   | none=>exact Iv.pr hx
   | some q =>
    refine Iv.ite (λ_=>Iv.fail) λ_=>uh d n (c+1) _ ?_;simp only[cO];exact hx
theorem Rk {d:Nat}{unit:Pa aG}(h:Iv cO unit):Iv cO (aY d unit):=Iv.pb h λx hx=>uh d _ _ _ hx
theorem Ag {again:Pa aG}(h:Iv cO again):∀(n:Nat) (a:List aG),gA a->Iv gA (bD again n a)
 | 0,_,_=>Iv.fail
 | n+1,a,ha=>Iv.ax (Iv.pb h λx hx=>Ag h n _ (ql ha hx)) (Iv.pr ha)
theorem YF {l:List aG}(h:gA l):cO (rowOf l):=by
 match l with
 | []=>simp only[rowOf,cO];exact h
 | [x]=>simp only[gA]at h;exact h.1
 | x::y::l=>simp only[rowOf,cO];exact h
theorem Td {l:List aG}(h:l≠[]/\gA l):cO (jN l):=by
 match l with
 | []=>exact absurd rfl h.1
 | [x]=>have h:=h.2;simp only[gA]at h;exact h.1
 | x::y::l=>simp only[jN,cO];exact h
theorem aBu {again:Pa aG}(h:Iv cO again):Iv cO (iH again):=Iv.pb (Ag h _ _ (by simp only[gA])) λps sj=>Iv.pr (YF sj)
theorem Af {row:Pa aG}(h:Iv cO row):∀(n:Nat) (a:List aG),a≠[]/\gA a->Iv (λa=>a≠[]/\gA a) (eR row n a)
 | 0,_,_=>Iv.fail
 | n+1,a,ha=>Iv.ax (Iv.pb Iv.pop λ_ _=>Iv.pb h λx hx=>Af h n _ ⟨by simp,ql ha.2 hx⟩) (Iv.pr ha)
theorem aBs {row:Pa aG}(h:Iv cO row):Iv cO (Kr row):=Iv.pb h λx hx=>Iv.pb (Af h _ _ ⟨by simp,by simp only[gA];exact⟨hx,trivial⟩⟩) λps sj=>Iv.pr (Td sj)
theorem OR {d:Nat}{unit:Pa aG}(h:Iv cO unit):Iv cO (Ap d unit):=Iv.ite (λ_=>Iv.fail) λ_=>aBs (aBu (Rk h))
theorem OS:∀d,Iv cO (aq d)
 | 0=>Iv.fail
 | d+1=>Iv.ax (Iv.pb Iv.pop λ_ _=>Iv.pr (by simp only[cO])) (Iv.ax (Iv.pb Iv.pop λ_ _=>Iv.pr (by simp only[cO]))
   (Iv.ax (Iv.pb Iv.pop λ_ _=>Iv.pb (OR (OS d)) λx hx=>Iv.pb (fe _) λ_ _=>Iv.pr hx)
    (Iv.ax (Iv.pb (AV (d+1)) λk hk=>Iv.pr (by simp only[cO])) Iv.fail)))
theorem XP (d:Nat):Iv cO (qk d):=OR (OS d)
theorem aBv:Iv (λr=>cO r.before/\cO r.after) lI:=Iv.pb Iv.dX λt _=>Iv.pb y8 λb _=>Iv.pb (XP 9) λx hx=>Iv.pb (fe _) λ_ _=>Iv.pb (XP 9) λy hy=>Iv.pb (fe _) λ_ _=>Iv.pr ⟨hx,hy⟩
theorem xV:∀(n:Nat) (acc:List dG),(∀r∈acc,cO r.before/\cO r.after)->Iv (λl=>∀r∈l,cO r.before/\cO r.after) (bP n acc)
 | 0,_,_=>Iv.fail
 | n+1,acc,ha=>Iv.ax (Iv.ite (λ_=>Iv.fail) λh=>Iv.pb aBv λr hr=>xV n _ (λx hx=>by
   rcases List.mem_append.1 hx with hx|hx
   ·exact ha x hx
   rw[List.mem_singleton.1 hx];exact hr)) (Iv.pr ha)
theorem aBt:Iv (λf=>∀r∈f.rules,cO r.before/\cO r.after) jB:=Iv.pb (ou _ _ ⟨by simp,by simp⟩) λcs il=>Iv.pb (xV _ _ (by simp)) λrs jU =>
 Iv.pb (I:=Tv) (λl x l' hl e=>⟨trivial,(show Iv Tv np from Iv.ax (Iv.pb Iv.pop λ_ _=>Iv.pb y8 λ_ _=>Iv.pb (fe _) λ_ _=>Iv.pr trivial) (Iv.pr trivial)) l x l' hl e |>.2⟩) λb _=>Iv.pr jU
section
variable (has:aw->Int->Prop) (c:aD) (back:Bool)
def lu:List aG->Nat->List Nat->Nat->Prop
 | [],a,js,b=>js=[]/\a=b
 | x::l,a,js,b=>∃j js',js=j::js'/\c.ins[a]?=some ⟨2,((a+1:Nat):Int),((j+1:Nat):Int)⟩/\iC has c back x (a+1) j/\c.ins[j]?=some ⟨3,0,0⟩/\lu l (j+1) js' b
end
section
variable {has:aw->Int->Prop} {c c':aD} {back:Bool}
theorem Jj:∀(l m:List aG) (a b d:Nat) (js ks:List Nat),lu has c back l a js b->lu has c back m b ks d->lu has c back (l++m) a (js++ks) d
 | [],m,a,b,d,js,ks,h1,h2=>by
  simp only[lu]at h1;obtain⟨rfl,rfl⟩:=h1;exact h2
 | x::l,m,a,b,d,js,ks,h1,h2=>by
  simp only[lu]at h1;obtain⟨j,js',rfl,h3,h4,h5,h6⟩:=h1;simp only[List.cons_append,lu];exact⟨j,_,rfl,h3,h4,h5,Jj l m (j+1) b d js' ks h6 h2⟩
theorem uz:∀(l:List aG) (a b:Nat) (js:List Nat),lu has c back l a js b->a<=b/\∀j∈js,a<j/\j<b
 | [],a,b,js,h=>by
  simp only[lu]at h;obtain⟨rfl,rfl⟩:=h;exact⟨Nat.le_refl _,λj hj=>by cases hj⟩
 | x::l,a,b,js,h=>by
  simp only[lu]at h;obtain⟨j,js',rfl,h3,h4,h5,h6⟩:=h;have e:=fN x _ _ h4;obtain⟨e1,e2⟩:=uz l _ _ _ h6;refine⟨by omega,λk hk=>?_⟩;rcases List.mem_cons.1 hk with rfl|hk
  ·exact⟨by omega,by omega⟩
  have:=e2 k hk;exact⟨by omega,by omega⟩
theorem wH:∀(l:List aG) (a b:Nat) (js:List Nat),eK c c' a b->lu has c back l a js b->lu has c' back l a js b
 | [],a,b,js,hs,h=>by simp only[lu]at h ⊢;exact h
 | x::l,a,b,js,hs,h=>by
  have eo:=uz (x::l) a b js h;simp only[lu]at h ⊢
  obtain⟨j,js',rfl,h3,h4,h5,h6⟩:=h;have hj:=eo.2 j (List.mem_cons_self ..);exact⟨j,js',rfl,by rw[hs.1 a (by omega) (by omega)];exact h3,dT x _ _ (hs.sub (by omega) (by omega)) h4,by rw[hs.1 j (by omega) (by omega)];exact h5,wH l _ _ _ (hs.sub (by omega) (Nat.le_refl _)) h6⟩
structure jz (c c':aD)(ks:List Nat)(g:I3->I3):Prop where
 ins:∀k,c'.ins[k]?=if k∈ks then (c.ins[k]?).map g else c.ins[k]?
 sets:c'.sets=c.sets
theorem jz.same {ks:List Nat}{g:I3->I3}(h:jz c c' ks g){a b:Nat}(hk:∀k∈ks,k<a\/b<=k):eK c c' a b :=
 ⟨λk h1 h2=>by rw[h.ins k,if_neg (λhm=>by have:=hk k hm;omega)],λi s hs=>by rw[h.sets];exact hs⟩
theorem jz.nil (c:aD)(g:I3->I3):jz c c [] g:=⟨λk=>by simp,rfl⟩
theorem jz.len {ks:List Nat}{g:I3->I3}(h:jz c c' ks g):c'.ins.length=c.ins.length:=by
 have key:∀k,c'.ins[k]?=none↔c.ins[k]?=none:=λk=>by
  rw[h.ins k];by_cases hm:k∈ks
  ·rw[if_pos hm,Option.map_eq_none_iff]
  rw[if_neg hm]
 have h1:=key c.ins.length;have h2:=key c'.ins.length;simp only[List.getElem?_eq_none_iff]at h1 h2;omega
theorem jz.step {ks:List Nat}{g:I3->I3}(hg:∀x,g (g x)=g x)(h:jz c c' ks g){k:Nat}{x:I3}(hx:c'.ins[k]?=some x):jz c ⟨c'.sets,c'.ins.set k (g x)⟩ (ks++[k]) g :=
 ⟨λj=>by
  show (c'.ins.set k (g x))[j]?=_
  rw[List.getElem?_set];have aj:=(List.getElem?_eq_some_iff.1 hx).1;by_cases hj:k=j
  ·subst hj;rw[if_pos rfl,if_pos aj,if_pos (by simp)];have h1:=h.ins k;rw[hx]at h1;by_cases hm:k∈ks
   ·rw[if_pos hm]at h1;cases hc:c.ins[k]? with
    | none=>rw[hc]at h1;cases h1
    | some y =>
     rw[hc]at h1;simp only[Option.map_some,Option.some.injEq]at h1 ⊢
     rw[h1,hg]
   rw[if_neg hm]at h1;rw[<-h1];rfl
  rw[if_neg hj,h.ins j];have:(j∈ks++[k])↔j∈ks:=by simp;omega
  simp only[this],h.sets⟩
theorem YL {y:aG}:∀(l:List aG) (a m e:Nat) (js:List Nat),jz c c' js (λx=>⟨x.op,(e:Int),x.b⟩)->lu has c back l a js m->iC has c back y m e->(∀k∈js,k<e)->lJ has c' back (l++[y]) a e:=by
 intro l a m e js hT;have key:∀(l:List aG) (a:Nat) (ks:List Nat),(∀k∈ks,k∈js)->(∀k∈js,k∈ks\/k<a)->lu has c back l a ks m->iC has c back y m e->lJ has c' back (l++[y]) a e:=by
  intro l;induction l with
  | nil =>
   intro a ks h1 h2 h3 h4;simp only[lu]at h3;obtain⟨rfl,rfl⟩:=h3;simp only[List.nil_append,lJ];refine .inl ⟨trivial,dT y _ _ (hT.same λk hk=>?_) h4⟩;rcases h2 k hk with h|h
   ·cases h
   exact .inl h
  | cons x l ih =>
   intro a ks h1 h2 h3 h4;have eo:=uz (x::l) a m ks h3;simp only[lu]at h3;obtain⟨j,js',rfl,h5,h6,h7,h8⟩:=h3;have Lj:=uz l _ _ _ h8;have hlen:=fN x _ _ h6;simp only[List.cons_append,lJ];refine .inr ⟨by simp,j,?_,dT x _ _ (hT.same λk hk=>?_) h6,?_,ih (j+1) js' (λk hk=>h1 k (List.mem_cons_of_mem _ hk)) (λk hk=>?_) h8 h4⟩
   ·rw[hT.ins a,if_neg (λhm=>?_)]
    ·exact h5
    rcases h2 a hm with h|h
    ·have:=(eo.2 a h).1;omega
    omega
   ·rcases h2 k hk with h|h
    ·rcases List.mem_cons.1 h with rfl|h
     ·exact .inr (Nat.le_refl _)
     have:=(Lj.2 k h).1;exact .inr (by omega)
    exact .inl (by omega)
   ·rw[hT.ins j,if_pos (h1 j (List.mem_cons_self ..)),h7];rfl
   rcases h2 k hk with h|h
   ·rcases List.mem_cons.1 h with rfl|h
    ·exact .inr (by omega)
    exact .inl h
   exact .inr (by omega)
 intro h3 h4 _;exact key l a js (λk h=>h) (λk h=>.inl h) h3 h4
def nQ (c:aD)(S:Nat->Nat->Prop):Nat->Nat->List Nat->Nat->Prop
 | 0,m,ks,e=>ks=[]/\m=e
 | t+1,m,ks,e=>∃RJ,ks=m::RJ/\c.ins[m]?=some ⟨2,((m+1:Nat):Int),0⟩/\∃m',S (m+1) m'/\nQ c S t m' RJ e
theorem EG {S:Nat->Nat->Prop}{e e':Nat}(hx:c.ins[e]?=some ⟨2,((e+1:Nat):Int),0⟩)(hS:S (e+1) e'):∀(t m:Nat) (ks:List Nat),nQ c S t m ks e->nQ c S (t+1) m (ks++[e]) e'
 | 0,m,ks,h=>by
  simp only[nQ]at h;obtain⟨rfl,rfl⟩:=h;simp only[List.nil_append,nQ];exact⟨[],rfl,hx,e',hS,rfl,rfl⟩
 | t+1,m,ks,h=>by
  rw[nQ]at h;obtain⟨RJ,rfl,h1,m',h2,h3⟩:=h;rw[List.cons_append,nQ];exact⟨_,rfl,h1,m',h2,EG hx hS t m' RJ h3⟩
theorem yf {S:Nat->Nat->Prop}{k e:Nat}(hl:∀a b,S a b->b=a+k):∀(t m:Nat) (ks:List Nat),nQ c S t m ks e->e=m+t*(k+1)/\∀j∈ks,m<=j/\j<e
 | 0,m,ks,h=>by
  simp only[nQ]at h;obtain⟨rfl,rfl⟩:=h;exact⟨by simp,λj hj=>by cases hj⟩
 | t+1,m,ks,h=>by
  rw[nQ]at h;obtain⟨RJ,rfl,h1,m',h2,h3⟩:=h;have e1:=hl _ _ h2;obtain⟨e2,e3⟩:=yf hl t m' RJ h3;refine⟨by rw[Nat.succ_mul];omega,λj hj=>?_⟩;rcases List.mem_cons.1 hj with rfl|hj
  ·exact⟨Nat.le_refl _,by omega⟩
  have:=e3 j hj;exact⟨by omega,this.2⟩
theorem EF {S S':Nat->Nat->Prop}{k e A:Nat}(hl:∀a b,S a b->b=a+k)(h:∀a b,A<=a->b<=e->S a b->S' a b)(hs:eK c c' A e):∀(t m:Nat) (ks:List Nat),A<=m->nQ c S t m ks e->nQ c' S' t m ks e
 | 0,m,ks,_,hh=>hh
 | t+1,m,ks,hA,hh=>by
  rw[nQ]at hh ⊢
  obtain⟨RJ,rfl,h1,m',h2,h3⟩:=hh;have e1:=hl _ _ h2;have e2:=(yf hl t m' RJ h3).1;have e4:0<=t*(k+1):=Nat.zero_le _;exact⟨RJ,rfl,by rw[hs.1 m hA (by omega)];exact h1,m',h _ _ (by omega) (by omega) h2,EF hl h hs t m' RJ (by omega) h3⟩
theorem Oe {S S':Nat->Nat->Prop}{k e:Nat}{js:List Nat}(hl:∀a b,S a b->b=a+k)(hT:jz c c' js (λx=>⟨x.op,x.a,(e:Int)⟩))(h:∀a b,S a b->(∀j∈js,j<a\/b<=j)->S' a b):∀(t m:Nat) (ks:List Nat),(∀j∈ks,j∈js)->(∀j∈js,j∈ks\/j<m)->nQ c S t m ks e->sK c' S' e t m
 | 0,m,ks,_,_,hh=>by
  simp only[nQ]at hh;exact hh.2
 | t+1,m,ks,h1,h2,hh=>by
  rw[nQ]at hh;obtain⟨RJ,rfl,h3,m',h4,h5⟩:=hh;have e1:=hl _ _ h4;have eo:=(yf hl t m' RJ h5).2;refine⟨?_,m',h _ _ h4 (λj hj=>?_),Oe hl hT h t m' RJ (λj hj=>h1 j (List.mem_cons_of_mem _ hj)) (λj hj=>?_) h5⟩
  ·rw[hT.ins m,if_pos (h1 m (List.mem_cons_self ..)),h3];rfl
  ·rcases h2 j hj with h|h
   ·rcases List.mem_cons.1 h with rfl|h
    ·exact .inl (by omega)
    have:=(eo j h).1;exact .inr (by omega)
   exact .inl (by omega)
  rcases h2 j hj with h|h
  ·rcases List.mem_cons.1 h with rfl|h
   ·exact .inr (by omega)
   exact .inl h
  exact .inr (by omega)
end
end Cae
namespace Go.Proofs.YtemjejfpadnljaaGreatDoor
open Go.Vc Go.Proofs Go.RowKit Cae
attribute [local irreducible] cg aa ag aX runK ar Sl Vc.Own vc aQ br a7
theorem X9 {s:List UInt8}{f:dY}(hs:s.length<=1000000)(h:dd s=.ok f):∀r∈f.rules,cO r.before/\cO r.after:=by
 unfold dd at h;split at h
 ·cases h
 rename_i l hl;have Nt:=Y5 hs hl;split at h
 ·cases h
 rename_i f' l' hf;split at h
 ·cases h;exact(aBt _ _ _ Nt.txt hf).1
 cases h
end Go.Proofs.YtemjejfpadnljaaGreatDoor
end
section
namespace Cae
def oY (l:List Tok):Nat:=(l.map λt=>t.text.length).sum
structure Tw (fE:List (List UInt8))(l:List Tok):Prop where
 pos:∀t∈l,t.kind≠5->1<=t.text.length
 fE:∀t∈l,t.text ∉ fE
theorem Tw.tail {fE:List (List UInt8)}{t:Tok}{l:List Tok}(h:Tw fE (t::l)):Tw fE l:=⟨λx hx=>h.pos x (List.mem_cons_of_mem _ hx),λx hx=>h.fE x (List.mem_cons_of_mem _ hx)⟩
def Cw (fE:List (List UInt8)){α:Type}(Q:α->Nat->Prop)(p:Pa α):Prop:=∀l x l',Tw fE l->p l=.ok (x,l')->Tw fE l'/\∃d,oY l=d+oY l'/\Q x d
section
variable {fE:List (List UInt8)} {α β:Type} {Q:α->Nat->Prop} {R:β->Nat->Prop} {p:Pa α} {q:α->Pa β}
theorem Cw.pr {x:α}(h:Q x 0):Cw fE Q (pr x):=λl y l' hl e=>by cases e;exact⟨hl,0,by omega,h⟩
theorem Cw.fail {e:Nat}:Cw fE Q (dr e):=λl y l' _ h=>by cases h
theorem Cw.iZ {Q':α->Nat->Prop}(h:Cw fE Q p)(hm:∀x d,Q x d->Q' x d):Cw fE Q' p:=λl x l' hl e=>by
 obtain⟨h1,d,h2,h3⟩:=h l x l' hl e;exact⟨h1,d,h2,hm x d h3⟩
theorem Cw.pb (h:Cw fE Q p)(k:∀x d,Q x d->Cw fE (λy e=>R y (d+e)) (q x)):Cw fE R (pb p q):=λl y l' hl e=>by
 obtain⟨x,l1,e1,e2⟩:=dq e;obtain⟨h1,d,h2,h3⟩:=h l x l1 hl e1;obtain⟨h4,d',h5,h6⟩:=k x d h3 l1 y l' h1 e2;exact⟨h4,d+d',by omega,h6⟩
theorem Cw.ax {cc:List Tok->Bool}{p1 p2:Pa α}(h1:Cw fE Q p1)(h2:Cw fE Q p2):Cw fE Q (ax cc p1 p2):=λl x l' hl e=>by
 unfold Cae.ax at e;split at e
 ·exact h1 l x l' hl e
 exact h2 l x l' hl e
theorem Cw.aKb {m:List UInt8}{p1 p2:Pa α}(hm:m∈fE)(h2:Cw fE Q p2):Cw fE Q (Cae.ax (dR m) p1 p2):=λl x l' hl e=>by
 unfold Cae.ax at e;split at e
 ·rename_i hs;exfalso;unfold dR at hs;rw[Bool.and_eq_true]at hs;cases l with
  | nil=>simp[hd]at hs
  | cons t r =>
   have h1:t.text=m:=by simpa[hd] using hs.2
   exact hl.fE t (List.mem_cons_self ..) (h1▸hm)
 exact h2 l x l' hl e
theorem Cw.ite {c:Prop}[Decidable c]{p1 p2:Pa α}(h1:c->Cw fE Q p1)(h2:¬c->Cw fE Q p2):Cw fE Q (if c then p1 else p2):=by
 by_cases h:c
 ·rw[if_pos h];exact h1 h
 rw[if_neg h];exact h2 h
end
section
variable {fE:List (List UInt8)}
def Dv (n:Nat){α:Type}(_:α)(d:Nat):Prop:=n<=d
theorem Cw.dX:Cw fE (Dv 0) dX:=λl x l' hl e=>by cases e;exact⟨hl,0,by omega,Nat.le_refl _⟩
theorem Cw.pop:Cw fE (Dv 1) cK:=λl x l' hl e=>by
 obtain⟨t,rfl,hk⟩:=tF e;refine⟨hl.tail,t.text.length,by simp[oY],hl.pos t (List.mem_cons_self ..) hk⟩
theorem jP (s:List UInt8):Cw fE (Dv 1) (cY s):=Cw.ax Cw.pop Cw.fail
theorem dJ {α β:Type}{p:Pa α}{q:α->Pa β}{n m:Nat}(h:Cw fE (Dv n) p)(k:∀x,Cw fE (Dv m) (q x)):Cw fE (Dv (n+m)) (pb p q) :=
 Cw.pb h λx d hd=>(k x).iZ λy e he=>by show n+m<=d+e;exact Nat.add_le_add hd he
theorem fH {α:Type}{p:Pa α}{n m:Nat}(h:Cw fE (Dv n) p)(hm:m<=n):Cw fE (Dv m) p:=h.iZ λ_ _ hd=>Nat.le_trans hm hd
theorem NY:Cw fE (Dv 1) mQ:=Cw.ax (Cw.ax Cw.fail (dJ (n:=0) (m:=1) Cw.dX λt=>dJ (n:=1) (m:=0) Cw.pop λ_=>Cw.pr (Nat.le_refl _))) Cw.fail
theorem aDS:Cw fE (Dv 0) tg :=
 Cw.ax (fH (dJ (n:=1) (m:=0) Cw.pop λ_=>Cw.pr (Nat.le_refl _)) (by omega)) (Cw.ax (fH (dJ (n:=1) (m:=0) Cw.pop λ_=>Cw.pr (Nat.le_refl _)) (by omega)) (Cw.ax (fH (dJ (n:=1) (m:=0) Cw.pop λ_=>Cw.pr (Nat.le_refl _)) (by omega)) (Cw.pr (Nat.le_refl _))))
theorem wT {one:Pa aw}(h:Cw fE (Dv 1) one)(pos:Nat):∀(n:Nat) (k:aw),Cw fE (Dv 0) (dM one pos n k)
 | 0,_=>Cw.fail
 | n+1,k=>fH (dJ (n:=0) (m:=0) aDS λc=>Cw.ite (λ_=>Cw.pr (Nat.le_refl _)) λ_=>fH (dJ (n:=1) (m:=0) h λr=>wT h pos n _) (by omega)) (by omega)
theorem Hf {one:Pa aw}(h:Cw fE (Dv 1) one):Cw fE (Dv 1) (sG one):=dJ (n:=0) (m:=1) Cw.dX λt=>dJ (n:=1) (m:=0) h λk=>wT h _ _ _
theorem aDT:Cw fE (Dv 1) GQ:=dJ (n:=0) (m:=1) Cw.dX λt=>by
 split
 ·exact Cw.fail
 exact dJ (n:=1) (m:=0) Cw.pop λ_=>Cw.pr (Nat.le_refl _)
theorem Es:∀d,Cw fE (Dv 1) (kU d)
 | 0=>Cw.fail
 | d+1=>Cw.ax aDT (Cw.ax (dJ (n:=0) (m:=1) Cw.dX λt=>dJ (n:=1) (m:=0) Cw.pop λ_=>fH (dJ (n:=1) (m:=0) (Es d) λk=>Cw.pr (Nat.le_refl _)) (by omega))
  (Cw.ax (dJ (n:=1) (m:=0) Cw.pop λ_=>fH (dJ (n:=1) (m:=1) (Hf (Es d)) λk=>dJ (n:=1) (m:=0) (jP _) λ_=>Cw.pr (Nat.le_refl _)) (by omega))
   (dJ (n:=0) (m:=1) Cw.dX λt=>dJ (n:=1) (m:=0) NY λn=>Cw.pr (Nat.le_refl _))))
theorem Hg:Cw fE (λn d=>n<=12/\1<=d) j4:=Cw.ax (Cw.pb (Q:=Dv 0) Cw.dX λt d _=>Cw.ite (λ_=>Cw.fail) λh=>Cw.pb (Q:=Dv 1) Cw.pop λ_ e he=>Cw.pr ⟨by omega,by have:1<=e:=he;omega⟩) Cw.fail
def ZE (q:Int×Int):Prop:=0<=q.1/\q.1<=12/\q.2<=12/\(q.2<0\/q.1<=q.2)
theorem PX:Cw fE (λq d=>ZE q) cf:=Cw.pb Hg λlo d AF=>Cw.ax (Cw.pb (Q:=Dv 1) Cw.pop λ_ _ _=>Cw.ax
  (Cw.pb Hg λhi _ WN=>Cw.ite (λ_=>Cw.fail) λh=>Cw.pb (jP _) λ_ _ _=>Cw.pr (by unfold ZE;dsimp only;omega))
  (Cw.pb (jP _) λ_ _ _=>Cw.pr (by unfold ZE;dsimp only;omega)))
 (Cw.pb (jP _) λ_ _ _=>Cw.pr (by unfold ZE;dsimp only;omega))
structure sO (fE:List (List UInt8))(M:aG->Nat->Prop)(ML AL:List aG->Nat->Prop):Prop where
 iZ:∀x d e,M x d->d<=e->M x e
 one:∀k,M (.one k) 1
 any:M .any 1
 gg:M .gg 1
 nil:ML [] 0
 snoc:∀l x d e,ML l d->M x e->ML (l++[x]) (d+e)
 cat:∀l d,ML l d->M (rowOf l) d
 first:∀x d,M x d->AL [x] d
 more:∀l x d e,AL l d->M x e->AL (l++[x]) (d+1+e)
 alt:∀l d,AL l d->M (jN l) d
 JG:∀l d e,AL l d->d<=e->AL l e
 O6:∀l d e,ML l d->d<=e->ML l e
 suf:Cw fE (λo d=>∀q,o=some q->1<=d/\∀x e,M x e->M (.many x q.1 q.2) (e+d)) eJ
variable {M:aG->Nat->Prop} {ML AL:List aG->Nat->Prop}
theorem ug (h:sO fE M ML AL)(d:Nat):∀(n c:Nat) (x:aG) (a:Nat),M x a->Cw fE (λy e=>M y (a+e)) (bW d n c x)
 | 0,_,_,_,_=>Cw.fail
 | n+1,c,x,a,hx=>Cw.pb h.suf λr b hr=>by
   cases r with
   | none=>exact Cw.pr (h.iZ _ _ _ hx (by omega))
   | some q =>
    have hq:=hr q rfl;exact Cw.ite (λ_=>Cw.fail) λ_=>(ug h d n (c+1) _ (a+b) (hq.2 x a hx)).iZ λy e he=>by rw[<-Nat.add_assoc];exact he
theorem Rj (h:sO fE M ML AL){d:Nat}{unit:Pa aG}(hu:Cw fE M unit):Cw fE M (aY d unit):=Cw.pb hu λx a hx=>ug h d _ _ x a hx
theorem Ae (h:sO fE M ML AL){again:Pa aG}(ha:Cw fE M again):∀(n:Nat) (l:List aG) (a:Nat),ML l a->Cw fE (λl e=>ML l (a+e)) (bD again n l)
 | 0,_,_,_=>Cw.fail
 | n+1,l,a,hl=>Cw.ax (Cw.pb ha λx b hx=>(Ae h ha n _ (a+b) (h.snoc _ _ _ _ hl hx)).iZ λy e he=>by rw[<-Nat.add_assoc];exact he) (Cw.pr (h.O6 _ _ _ hl (by omega)))
theorem aBo (h:sO fE M ML AL){again:Pa aG}(ha:Cw fE M again):Cw fE M (iH again):=Cw.pb ((Ae h ha _ [] 0 h.nil)) λps b sj=>Cw.pr (h.cat _ _ (h.O6 _ _ _ sj (by omega)))
theorem Ad (h:sO fE M ML AL){row:Pa aG}(hr:Cw fE M row):∀(n:Nat) (l:List aG) (a:Nat),AL l a->Cw fE (λl e=>AL l (a+e)) (eR row n l)
 | 0,_,_,_=>Cw.fail
 | n+1,l,a,hl=>Cw.ax (Cw.pb (Q:=Dv 1) Cw.pop λ_ b hb=>Cw.pb hr λx c hx=>(Ad h hr n _ (a+1+c) (h.more _ _ _ _ hl hx)).iZ λy e he=>h.JG _ _ _ he (by have:1<=b:=hb;omega)) (Cw.pr (h.JG _ _ _ hl (by omega)))
theorem aBm (h:sO fE M ML AL){row:Pa aG}(hr:Cw fE M row):Cw fE M (Kr row):=Cw.pb hr λx a hx=>Cw.pb (Ad h hr _ [x] a (h.first _ _ hx)) λps b sj=>Cw.pr (h.alt _ _ (h.JG _ _ _ sj (by omega)))
theorem ON (h:sO fE M ML AL){d:Nat}{unit:Pa aG}(hu:Cw fE M unit):Cw fE M (Ap d unit):=Cw.ite (λ_=>Cw.fail) λ_=>aBm h (aBo h (Rj h hu))
theorem OO (h:sO fE M ML AL):∀d,Cw fE M (aq d)
 | 0=>Cw.fail
 | d+1=>Cw.ax (Cw.pb (Q:=Dv 1) Cw.pop λ_ b hb=>Cw.pr (h.iZ _ _ _ h.any (by have:1<=b:=hb;omega))) (Cw.ax (Cw.pb (Q:=Dv 1) Cw.pop λ_ b hb=>Cw.pr (h.iZ _ _ _ h.gg (by have:1<=b:=hb;omega)))
   (Cw.ax (Cw.pb (Q:=Dv 1) Cw.pop λ_ b hb=>Cw.pb (ON h (OO h d)) λx c hx=>Cw.pb (jP _) λ_ _ _=>Cw.pr (h.iZ _ _ _ hx (by omega)))
    (Cw.ax (Cw.pb (Es (d+1)) λk b hb=>Cw.pr (h.iZ _ _ _ (h.one k) (by have:1<=b:=hb;omega))) Cw.fail)))
theorem XN (h:sO fE M ML AL)(d:Nat):Cw fE M (qk d):=ON h (OO h d)
end
section
variable {fE:List (List UInt8)}
theorem PY {α:Type}{m:List UInt8}{k:Nat}{v:α}{p2:Pa α}(hk:k<=m.length)(h2:Cw fE (Dv k) p2):Cw fE (Dv k) (ax (dR m) (pb cK λ_=>pr v) p2):=λl x l' hl e=>by
 unfold Cae.ax at e;split at e
 ·rename_i hs;obtain⟨y,l1,e1,e2⟩:=dq e;obtain⟨t,rfl,CC⟩:=tF e1;cases e2;unfold dR at hs;rw[Bool.and_eq_true]at hs;have ht:t.text=m:=by simpa[hd] using hs.2
  exact⟨hl.tail,t.text.length,by simp[oY],by show k<=t.text.length;rw[ht];exact hk⟩
 exact h2 l x l' hl e
theorem NZ:Cw fE (Dv 4) gW:=PY (by decide) (λl x l' hl e=>by
 obtain⟨y,l1,e1,e2⟩:=dq e;cases e2;unfold cY Cae.ax at e1;split at e1
 ·rename_i hs;obtain⟨t,rfl,CC⟩:=tF e1;unfold dR at hs;rw[Bool.and_eq_true]at hs;have ht:t.text=[107,101,101,112]:=by simpa[hd] using hs.2
  exact⟨hl.tail,t.text.length,by simp[oY],by show 4<=t.text.length;rw[ht];decide⟩
 cases e1)
def RM (M:aG->Nat->Prop)(r:dG)(n:Nat):Prop:=∃a b,M r.before a/\M r.after b/\a+b+6<=n
variable {M:aG->Nat->Prop} {ML AL:List aG->Nat->Prop}
theorem aBp (h:sO fE M ML AL):Cw fE (RM M) lI:=Cw.pb (Q:=Dv 0) Cw.dX λt _ _=>Cw.pb NZ λb d hd=>Cw.pb (XN h 9) λx a hx=>Cw.pb (jP _) λ_ c hc=>Cw.pb (XN h 9) λy b hy=>Cw.pb (jP _) λ_ e he=>Cw.pr ⟨a,b,hx,hy,by have h1:4<=d:=hd;have h2:1<=c:=hc;have h3:1<=e:=he;omega⟩
theorem xU (h:sO fE M ML AL):∀(n:Nat) (acc:List dG) (a:Nat),(∀r∈acc,RM M r a)->Cw fE (λl e=>∀r∈l,RM M r (a+e)) (bP n acc)
 | 0,_,_,_=>Cw.fail
 | n+1,acc,a,ha=>Cw.ax (Cw.ite (λ_=>Cw.fail) λ_=>Cw.pb (aBp h) λr b hr=>(xU h n _ (a+b) (λx hx=>by
   rcases List.mem_append.1 hx with hx|hx
   ·obtain⟨p,q,h1,h2,h3⟩:=ha x hx;exact⟨p,q,h1,h2,by omega⟩
   rw[List.mem_singleton.1 hx];obtain⟨p,q,h1,h2,h3⟩:=hr;exact⟨p,q,h1,h2,by omega⟩)).iZ λl e he r hr=>by rw[<-Nat.add_assoc];exact he r hr) (Cw.pr (λr hr=>by obtain⟨p,q,h1,h2,h3⟩:=ha r hr;exact⟨p,q,h1,h2,by omega⟩))
theorem Ur:Cw fE (Dv 0) nR:=fH (dJ (n:=0) (m:=0) Cw.dX λt=>fH (dJ (n:=1) (m:=0) (jP _) λ_=>fH (dJ (n:=1) (m:=0) NY λn=>fH (dJ (n:=1) (m:=0) (jP _) λ_=>fH (dJ (n:=1) (m:=0) (Hf (Es 9)) λk=>fH (dJ (n:=1) (m:=0) (jP _) λ_=>Cw.pr (Nat.le_refl _)) (by omega)) (by omega)) (by omega)) (by omega)) (by omega)) (by omega)
theorem tq:∀(n:Nat) (acc:List fB),Cw fE (Dv 0) (bR n acc)
 | 0,_=>Cw.fail
 | n+1,acc=>Cw.ax (Cw.ite (λ_=>Cw.fail) λ_=>fH (dJ (n:=0) (m:=0) Ur λc=>tq n _) (by omega)) (Cw.pr (Nat.le_refl _))
theorem Z8:Cw fE (Dv 0) np:=Cw.ax (fH (dJ (n:=1) (m:=0) Cw.pop λ_=>fH (dJ (n:=4) (m:=0) NZ λ_=>fH (dJ (n:=1) (m:=0) (jP _) λ_=>Cw.pr (Nat.le_refl _)) (by omega)) (by omega)) (by omega)) (Cw.pr (Nat.le_refl _))
theorem aBn (h:sO fE M ML AL):Cw fE (λf d=>∀r∈f.rules,RM M r d) jB:=Cw.pb (tq _ _) λcs a _=>Cw.pb (xU h _ [] 0 (by simp)) λrs b jU=>Cw.pb Z8 λe c _=>Cw.pr (λr hr=>by obtain⟨p,q,h1,h2,h3⟩:=jU r hr;exact⟨p,q,h1,h2,by omega⟩)
theorem Mp (l:List Tok):yR l=oY l:=by
 induction l with
 | nil=>rfl
 | cons t l ih=>simp[yR,oY]at ih ⊢
theorem J2 (h:sO fE M ML AL){s:List UInt8}{f:dY}(hb:∀m∈fE,m≠[])(hs:∀m∈fE,¬m <:+: s)(hp:dd s=.ok f):∀r∈f.rules,RM M r s.length:=by
 unfold dd at hp;split at hp
 ·cases hp
 rename_i l hl;obtain⟨m,hm,e,hn⟩:=jn _ _ _ _ _ (by simp) hl;rw[List.nil_append]at e;have qS:=hm.sum;have hT:Tw fE l:=by
  rw[e];refine⟨λt ht hk=>?_,λt ht aEC=>?_⟩
  ·rcases List.mem_append.1 ht with ht|ht
   ·exact qS.2 t ht
   rw[List.mem_singleton.1 ht]at hk;exact absurd rfl hk
  rcases List.mem_append.1 ht with ht|ht
  ·exact hs _ aEC (hm.inside t ht)
  rw[List.mem_singleton.1 ht]at aEC;exact hb _ aEC rfl
 split at hp
 ·cases hp
 rename_i f' l' hf;split at hp
 ·cases hp;obtain⟨_,d,h2,h3⟩:=aBn h l _ _ hT hf;have hlen:oY l<=s.length:=by
   rw[e];have h1:=qS.1;rw[Mp]at h1;simp[oY]at h1 ⊢
   exact h1
  intro r hr;obtain⟨p,q,h4,h5,h6⟩:=h3 r hr;exact⟨p,q,h4,h5,by omega⟩
 cases hp
end
theorem sS:∀(l:List aG) (x:aG),l≠[]->fG (l++[x])=fG l+2+bF x
 | [],x,h=>absurd rfl h
 | [y],x,_=>by simp[fG]
 | y::z::l,x,_=>by
  have:=sS (z::l) x (by simp);have e1:fG (y::(z::l++[x]))=bF y+2+fG (z::l++[x]):=by rw[fG,if_neg (by simp)]
  have e2:fG (y::z::l)=bF y+2+fG (z::l):=by rw[fG,if_neg (by simp)]
  rw[List.cons_append,e1,e2,this];omega
theorem zM (l:List aG)(x:aG):bh (l++[x])=bh l+bF x:=by
 induction l with
 | nil=>simp[bh]
 | cons y l ih=>rw[List.cons_append,bh,bh,ih];omega
theorem zQ (l:List aG):bF (rowOf l)=bh l:=by
 match l with
 | []=>rfl
 | [x]=>simp[rowOf,bh]
 | x::y::l=>rfl
theorem zO (l:List aG):bF (jN l)=fG l:=by
 match l with
 | []=>rfl
 | [x]=>simp[jN,fG]
 | x::y::l=>rfl
theorem MI:sO [[43],[123]] (λx d=>bF x<=2*d) (λl d=>bh l<=2*d) (λl d=>l≠[]/\fG l<=2*d) where
 iZ x d e h hd:=by omega
 one k:=by simp[bF]
 any:=by simp[bF]
 gg:=by simp[bF]
 nil:=by simp[bh]
 snoc l x d e h1 h2:=by rw[zM];omega
 cat l d h:=by rw[zQ];exact h
 first x d h:=⟨by simp,by simpa[fG] using h⟩
 more l x d e h1 h2:=⟨by simp,by rw[sS l x h1.1];omega⟩
 alt l d h:=by rw[zO];exact h.2
 JG l d e h hd:=⟨h.1,by omega⟩
 O6 l d e h hd:=by omega
 suf:=Cw.ax (Cw.pb (Q:=Dv 1) Cw.pop λ_ b hb=>Cw.pr (λq hq=>by cases hq;have h1:1<=b:=hb;exact⟨by omega,λx e he=>by simp[bF];omega⟩)) (Cw.aKb (by simp) (Cw.ax (Cw.pb (Q:=Dv 1) Cw.pop λ_ b hb=>Cw.pr (λq hq=>by cases hq;have h1:1<=b:=hb;exact⟨by omega,λx e he=>by simp[bF];omega⟩)) (Cw.aKb (by simp) (Cw.pr (λq hq=>by cases hq)))))
theorem PJ {x:aG}{q:Int×Int}(hq:ZE q):bF (.many x q.1 q.2)+1<=16*(bF x+1):=by
 obtain⟨h1,h2,h3,h4⟩:=hq;obtain⟨lo,AF⟩:∃lo:Nat,q.1=lo:=⟨q.1.toNat,by omega⟩;simp only[bF,AF,Int.toNat_natCast];have hl:lo<=12:=by omega
 have h5:lo*bF x<=12*bF x:=Nat.mul_le_mul_right _ hl;split
 ·omega
 obtain⟨k,hk⟩:∃k:Nat,q.2=lo+k:=⟨(q.2-lo).toNat,by omega⟩;have e:(q.2-(lo:Int)).toNat=k:=by omega
 rw[e];have h6:lo*bF x+k*(bF x+1)<=(lo+k)*(bF x+1):=by rw[Nat.add_mul,Nat.mul_add lo];omega
 have h7:(lo+k)*(bF x+1)<=12*(bF x+1):=Nat.mul_le_mul_right _ (by omega);omega
theorem pow_two {a b d e:Nat}(h1:a+1<=16 ^ d)(h2:b+1<=16 ^ e):(a+1)*(b+1)<=16 ^ (d+e):=by rw[Nat.pow_add];exact Nat.mul_le_mul h1 h2
theorem XF:sO [] (λx d=>bF x+1<=16 ^ d) (λl d=>bh l+1<=16 ^ d) (λl d=>l≠[]/\fG l+1<=16 ^ d) where
 iZ x d e h hd:=Nat.le_trans h (Nat.pow_le_pow_right (by omega) hd)
 one k:=by simp[bF]
 any:=by simp[bF]
 gg:=by simp[bF]
 nil:=by simp[bh]
 snoc l x d e h1 h2:=by
  rw[zM]
  have:=pow_two h1 h2;have e1:(bh l+1)*(bF x+1)=bh l*bF x+bh l+bF x+1:=by rw[Nat.add_mul,Nat.mul_add];omega
  omega
 cat l d h:=by rw[zQ];exact h
 first x d h:=⟨by simp,by simpa[fG] using h⟩
 more l x d e h1 h2:=⟨by simp,by
  rw[sS l x h1.1]
  have:=pow_two h1.2 h2;have e1:(fG l+1)*(bF x+1)=fG l*bF x+fG l+bF x+1:=by rw[Nat.add_mul,Nat.mul_add];omega
  have e2:16 ^ (d+1+e)=16*16 ^ (d+e):=by rw[show d+1+e=(d+e)+1 by omega,Nat.pow_succ];omega
  omega⟩
 alt l d h:=by rw[zO];exact h.2
 JG l d e h hd:=⟨h.1,Nat.le_trans h.2 (Nat.pow_le_pow_right (by omega) hd)⟩
 O6 l d e h hd:=Nat.le_trans h (Nat.pow_le_pow_right (by omega) hd)
 suf:=by
  have key:∀(q:Int×Int) (d:Nat),ZE q->1<=d->1<=d/\∀(x:aG) (e:Nat),bF x+1<=16 ^ e->bF (.many x q.1 q.2)+1<=16 ^ (e+d):=λq d hq hd=>⟨hd,λx e he=>by
   have h1:=PJ (x:=x) hq;have h2:16 ^ (e+1)<=16 ^ (e+d):=Nat.pow_le_pow_right (by omega) (by omega);have h3:16 ^ (e+1)=16*16 ^ e:=by rw[Nat.pow_succ];omega
   omega⟩
  exact Cw.ax (Cw.pb (Q:=Dv 1) Cw.pop λ_ b hb=>Cw.pr (λq hq=>by cases hq;exact key _ _ (by unfold ZE;decide) hb)) (Cw.ax (Cw.pb (Q:=Dv 1) Cw.pop λ_ b hb=>Cw.pr (λq hq=>by cases hq;exact key _ _ (by unfold ZE;decide) hb)) (Cw.ax (Cw.pb (Q:=Dv 1) Cw.pop λ_ b hb=>Cw.pr (λq hq=>by cases hq;exact key _ _ (by unfold ZE;decide) hb)) (Cw.ax (Cw.pb (Q:=Dv 1) Cw.pop λ_ b hb=>Cw.pb PX λr c hr=>Cw.pr (λq hq=>by cases hq;have h1:1<=b:=hb;exact key _ _ hr (by omega))) (Cw.pr (λq hq=>by cases hq)))))
theorem LK {s:List UInt8}{f:dY}(hl:s.length<=900)(h1:(43:UInt8) ∉ s)(h2:(123:UInt8) ∉ s)(hp:dd s=.ok f):∀r∈f.rules,bF r.before+1<=2000/\bF r.after+1<=2000:=λr hr=>by
 obtain⟨a,b,h3,h4,h5⟩:=J2 MI (by simp) (λm hm hi=>by
  have yG:∀c∈m,c∈s:=λc hc=>hi.subset hc;simp only[List.mem_cons,List.not_mem_nil,or_false]at hm;rcases hm with rfl|rfl
  ·exact h1 (yG 43 (by simp))
  exact h2 (yG 123 (by simp))) hp r hr
 exact⟨by omega,by omega⟩
theorem LL {s:List UInt8}{f:dY}(hl:s.length<=8)(hp:dd s=.ok f):∀r∈f.rules,bF r.before+1<=2000/\bF r.after+1<=2000:=λr hr=>by
 obtain⟨a,b,h3,h4,h5⟩:=J2 XF (by simp) (by simp) hp r hr;have h6:16 ^ a<=16 ^ 2:=Nat.pow_le_pow_right (by omega) (by omega);have h7:16 ^ b<=16 ^ 2:=Nat.pow_le_pow_right (by omega) (by omega);exact⟨by omega,by omega⟩
end Cae
end
section
namespace Go.Proofs.YtemjejfpadnljaaGreatDoor
open Go.Vc Go.Proofs Go.RowKit Cae
attribute [local irreducible] cg aa ag aX runK ar Sl Vc.Own vc aQ br a7
theorem VM (l l':List Rg)(hl:l.length<10000000)(X X':Nat->Prop)(v v':Value)(w:World)(hv:Sl X 2 (En ay) w v l)(Nv:Sl X' 2 (En ay) w v' l') :
  ar Tryz.prog 172 [v,v'] w λr w'=>r=.bool (decide (l=l'))/\Below w.heap.size w w':=by
 obtain⟨a,c,rfl,hc⟩:=hv.shape;obtain⟨a',c',rfl,hc'⟩:=Nv.shape;refine aE Tryz.func172 rfl (by kernel_rfl) [4] rfl ?_;push_cast -dsimp(maxSteps:=4000000) [Tryz.ntmps172];refine⟨λcW=>⟨?_,Below.refl _ _⟩,λhe=>?_⟩
 ·rw[decide_eq_false];intro h;subst h;omega
 have Nd:l.length=l'.length:=by omega
 refine aK [4,5,13,14,15,16,17,18,19,20,21,22,23,24,25] (λz wx=>∃(i:Nat),z 13=.int .i64 i/\i<=l.length/\l.take i=l'.take i/\Below w.heap.size w wx) (λz _=>l.length-(intOf (z 13)).toNat) ?_ ?_
 ·exact⟨0,rfl,Nat.zero_le _,rfl,Below.refl _ _⟩
 intro z wx hI;obtain⟨i,zm,hi,bU,hb⟩:=hI;push_cast -dsimp[zm];refine⟨λaj=>?_,λeo=>?_⟩
 ·obtain⟨x,hx,mm,hd,ht⟩:=ah (l:=l) (i:=i) (by omega);obtain⟨b,o,rfl,hX,aU⟩:=(hv.below hb).get hx;obtain⟨x',GJ,aJR,hd',Nr⟩:=ah (l:=l') (i:=i) (by omega);obtain⟨b',o',rfl,hX',AB⟩:=(Nv.below hb).get GJ;refine ba (λw'=>∀a,w'.cell? a=wx.cell? a) mixed (by kernel_rfl) (λ_=>rfl) ?_;have g0:∀bE:World,(∀a,bE.cell? a=wx.cell? a)->aB bE ⟨b,o+i*2,none⟩ 0 2=some [.int .i64 x.1,.int .i64 x.2]:=λbE hC=>ak (ay x) 0 (λj u hu=>by rw[hC];simpa using aU j u hu);have g0':∀bE:World,(∀a,bE.cell? a=wx.cell? a)->aB bE ⟨b',o'+i*2,none⟩ 0 2=some [.int .i64 x'.1,.int .i64 x'.2]:=λbE hC=>ak (ay x') 0 (λj u hu=>by rw[hC];simpa using AB j u hu);have d0:=g0 wx.drew (λ_=>rfl);have d0':=g0' wx.drew (λ_=>rfl);push_cast -dsimp[d0,d0'];have aM5:((x.1=x'.1/\x.2=x'.2))↔x=x':=by
   cases x;cases x';simp only[Prod.mk.injEq]
  rw[aM5];refine⟨⟨by omega,by omega⟩,λbE hC=>by rw[g0 bE hC];exact rfl,⟨by omega,by omega⟩,λbE hC=>by rw[g0' bE hC];exact rfl,λcW=>?_,λheq=>?_⟩
  ·refine⟨?_,hb.drew⟩;rw[decide_eq_false];intro h;subst h;rw[hx]at GJ;cases GJ;exact cW rfl
  have heq:x=x':=Classical.byContradiction λh=>heq h;exact⟨⟨by omega,by omega⟩,⟨i+1,rfl,by omega,by rw[ht,Nr,bU,heq],hb.drew⟩,by rw[zm];simp only[intOf];omega⟩
 refine⟨?_,hb⟩;rw[List.take_of_length_le (by omega),List.take_of_length_le (by omega)]at bU;rw[decide_eq_true bU]
theorem Wg {L:VP}{other:Prop}(ty x)(p):sr 8 ty x L other p=L (.iface ty x):=(rfl)
theorem NB:(Tryz.prog.underlying 196).isSome=true:=by kernel_rfl
attribute [push_cast] NB Wg
def Kp (e:Int)(ce:List PanicEntry):Prop:=ce=[{ v:=.iface 196 (.agg #[.int .i64 e]),recovered:=false }]
def MkB (B mb nb:Nat)(back:Bool)(X:Nat->Prop)(w:World)(c:aD)(sv iv:Value)(us:List SV):Prop:=aL w mb 200 [sv,iv,.map (some nb),.bool back]/\Vc.Own B 139 1 j9 w sv us/\Vc.Own B 164 3 bN w iv c.ins/\us.length=c.sets.length /\
  sv.ownBlock≠some mb/\iv.ownBlock≠some mb/\(∀g,sv.ownBlock=some g->iv.ownBlock≠some g) /\
  ∀(i:Nat) (u:SV) (s:List Rg),us[i]?=some u->c.sets[i]?=some s->Sl (λb=>X b\/b=mb\/sv.ownBlock=some b\/iv.ownBlock=some b) 2 (En ay) w u.v s
structure Mk (B mb nb:Nat)(back:Bool)(X:Nat->Prop)(w:World)(c:aD):Prop where
 st:∃sv iv us,MkB B mb nb back X w c sv iv us
 lt:mb<B
 le:B<=w.heap.size
 few:∀s∈c.sets,aO (-2) s=true
 num:c.ins.length<=2000
 sum:c.sets.length<=c.ins.length+1
theorem Mk.below {B mb nb:Nat}{back:Bool}{X:Nat->Prop}{w w':World}{c:aD}(h:Mk B mb nb back X w c)(hb:Below w.heap.size w w'):Mk B mb nb back X w' c:=by
 obtain⟨sv,iv,us,hB,wZ,jS,uQ,ft,gY,lQ,pq⟩:=h.st;exact⟨⟨sv,iv,us,hB.below hb hB.lt,wZ.below hb,jS.below hb,uQ,ft,gY,lQ,λi u s h1 h2=>(pq i u s h1 h2).below hb⟩,h.lt,Nat.le_trans h.le hb.size,h.few,h.num,h.sum⟩
def Mw (w:World)(mb i:Nat):Prop:=i=mb\/∃o v,w.cell? ⟨mb,o,none⟩=some v/\v.ownBlock=some i
structure gM (mb:Nat)(w w':World):Prop where
 kept:Kept (Mw w mb) w w'
 own:∀i,Mw w' mb i->Mw w mb i\/w.heap.size<=i
theorem gM.trans {mb:Nat}{a b c:World}(h:gM mb a b)(k:gM mb b c):gM mb a c :=
 ⟨h.kept.trans k.kept (λi hi hm=>(h.own i hm).resolve_right (by omega)),λi hi=>by
  rcases k.own i hi with h1|h1
  ·exact h.own i h1
  have:=h.kept.size;exact .inr (by omega)⟩
theorem gM.below {mb:Nat}{w w':World}(hb:Below w.heap.size w w')(aj:mb<w.heap.size):gM mb w w' :=
 ⟨Kept.aN hb (λi h1 h2=>by omega),λi hi=>by
  rcases hi with hi|⟨o,v,h1,h2⟩
  ·exact .inl (.inl hi)
  refine .inl (.inr ⟨o,v,?_,h2⟩);rw[<-hb.cell (p:=⟨mb,o,none⟩) aj];exact h1⟩
theorem gM.refl {mb:Nat}{w:World}(aj:mb<w.heap.size):gM mb w w:=gM.below (Below.refl _ _) aj
theorem aBq {w:World}{mb i:Nat}{e:TypeId}{a b c d:Value}(h:aL w mb e [a,b,c,d]):Mw w mb i↔i=mb\/a.ownBlock=some i\/b.ownBlock=some i\/c.ownBlock=some i\/d.ownBlock=some i:=by
 unfold Mw;constructor
 ·rintro(hi|⟨o,v,h1,h2⟩)
  ·exact .inl hi
  have hc:[a,b,c,d][o]?=some v:=by
   have hB:w.heap[mb]?=_:=h;simp only[World.cell?,hB]at h1;simpa using h1
  match o,hc with
  | 0,hc=>cases hc;exact .inr (.inl h2)
  | 1,hc=>cases hc;exact .inr (.inr (.inl h2))
  | 2,hc=>cases hc;exact .inr (.inr (.inr (.inl h2)))
  | 3,hc=>cases hc;exact .inr (.inr (.inr (.inr h2)))
  | _+4,hc=>simp at hc
 rintro(hi|hi|hi|hi|hi)
 ·exact .inl hi
 ·exact .inr ⟨0,a,h.cell rfl,hi⟩
 ·exact .inr ⟨1,b,h.cell rfl,hi⟩
 ·exact .inr ⟨2,c,h.cell rfl,hi⟩
 exact .inr ⟨3,d,h.cell rfl,hi⟩
theorem eO {w:World}{mb i nb:Nat}{e:TypeId}{a b:Value}{back:Bool}(h:aL w mb e [a,b,.map (some nb),.bool back]):Mw w mb i↔i=mb\/a.ownBlock=some i\/b.ownBlock=some i:=by
 rw[aBq h];simp[Value.ownBlock]
theorem Mk.mw {B mb nb:Nat}{back:Bool}{X:Nat->Prop}{w:World}{c:aD}(h:Mk B mb nb back X w c){i:Nat}(hi:Mw w mb i):(i=mb\/B<=i)/\i<w.heap.size:=by
 obtain⟨sv,iv,us,hB,wZ,jS,_⟩:=h.st;have aj:=h.lt;have hle:=h.le;rcases(eO hB).1 hi with hi|hi|hi
 ·exact⟨.inl hi,by omega⟩
 ·have:=wZ.block i hi;exact⟨.inr this.1,this.2⟩
 have:=jS.block i hi;exact⟨.inr this.1,this.2⟩
theorem gM.out {B mb nb:Nat}{back:Bool}{X:Nat->Prop}{w w':World}{c:aD}(h:gM mb w w')(hM:Mk B mb nb back X w c):Kept (λi=>i=mb\/B<=i) w w':=h.kept.weaken (λi _ hi=>(hM.mw hi).1)
theorem ob {B mb nb:Nat}{back:Bool}{X:Nat->Prop}{w:World}{c:aD}(h:Mk B mb nb back X w c):ar Tryz.prog 173 [.pointer (some ⟨mb,0,none⟩)] w λr w'=>r=.int .i64 c.ins.length/\w'=w:=by
 obtain⟨sv,iv,us,hB,wZ,jS,uQ,ft,gY,lQ,pq⟩:=h.st;obtain⟨ia,ic,rfl⟩:=jS.slice;refine aE Tryz.func173 rfl (by kernel_rfl) [2] rfl ?_;push_cast -dsimp(maxSteps:=4000000) [Tryz.ntmps173];have f1:w.cell? ⟨mb,1,none⟩=some (.slice ia c.ins.length ic):=hB.cell rfl;push_cast -dsimp[f1]
def aD.push (c:aD)(x:I3):aD:=⟨c.sets,c.ins++[x]⟩
theorem td {B mb nb:Nat}{back:Bool}{X:Nat->Prop}{w:World}{c:aD}(h:Mk B mb nb back X w c)(qS:c.sets.length<=c.ins.length+1)(x:I3) :
  xl Tryz.prog 112 [.pointer (some ⟨mb,0,none⟩),.agg #[.int .i64 x.op,.int .i64 x.a,.int .i64 x.b]] w
   (λr w'=>c.ins.length<2000/\r=.int .i64 c.ins.length/\Mk B mb nb back X w' (aD.push c x)/\gM mb w w') (λce w'=>c.ins.length=2000/\Kp 4 ce/\gM mb w w'):=by
 obtain⟨sv,iv,us,hB,wZ,jS,uQ,ft,gY,lQ,pq⟩:=h.st;obtain⟨sa,sc,rfl⟩:=wZ.slice;obtain⟨ia,ic,rfl⟩:=jS.slice;have hle:=h.le;have aj:=h.lt;have WU:=h.num;refine bG Tryz.func112 rfl (by kernel_rfl) [.tmp 4] rfl ?_;push_cast -dsimp(maxSteps:=4000000) [Tryz.ntmps112];refine aR ?_;intro w1 aV;have aV:mg w w1 164 [.int .i64 x.op,.int .i64 x.a,.int .i64 x.b]:=aV;have z1:=aV.size;have T1:=aV.aM;have B1:=hB.below aV.below hB.lt;have f1:w1.cell? ⟨mb,1,none⟩=some (.slice ia c.ins.length ic):=B1.cell rfl;have k1:gM mb w w1:=gM.below aV.below (by omega);push_cast -dsimp[f1];refine⟨λaHR=>?_,λaHR=>?_⟩
 ·refine X8 ?_;push_cast -dsimp;exact⟨by omega,rfl,k1⟩
 have B1d:=B1.drew;have T1d:=T1.drew;refine dU (λw'=>aL w' mb 200 [.slice sa us.length sc,.slice ia c.ins.length ic,.map (some nb),.bool back]/\aL w' w.heap.size 164 [.int .i64 x.op,.int .i64 x.a,.int .i64 x.b]) mixed (by kernel_rfl) (by simp) ⟨B1d,T1d⟩ ?_;have g1:w1.drew.cell? ⟨mb,1,none⟩=some (.slice ia c.ins.length ic):=B1d.cell rfl;have g2:aB w1.drew ⟨w.heap.size,0,none⟩ 0 3=some [.int .i64 x.op,.int .i64 x.a,.int .i64 x.b]:=T1d.aB;push_cast -dsimp[g1,g2];refine⟨λbE h=>by rw[h.1.cell (o:=1) rfl];exact rfl,λbE h=>by rw[show aB bE ⟨w.heap.size,0,none⟩ 0 3=some [.int .i64 x.op,.int .i64 x.a,.int .i64 x.b] from h.2.aB];exact rfl,?_⟩
 refine cG ee rfl rfl (by omega) ?_;intro wa fu;have za:wa.heap.size=w1.heap.size+1:=fu.size;have Ba:=B1d.below fu.below B1d.lt;have Ta:=T1d.below fu.below T1d.lt;refine⟨⟨Ba,Ta⟩,?_⟩;have aL3:Vc.Own B 164 3 bN w1.drew (.slice ia c.ins.length ic) c.ins:=(jS.new aV).aJ ((Kept.refl (λ_=>False) w1).drew) (λ_ _ h=>h);have hOa:=aL3.new fu;push_cast -dsimp;refine aW (base:=B) [x] (enc:=bN) ee hOa (by rfl) (λj u hu=>by simpa[bN] using fu.cell hu) (by simp[bN,Value.oneCell']) (by simp only[List.length_cons,List.length_nil];omega) (by show B<=wa.heap.size;omega) ?_
 intro vb wb fS CA mJ;have tS:∀g,(Value.slice ia c.ins.length ic).ownBlock=some g->B<=g/\g<w.heap.size:=λg hg=>jS.block g hg;have kb:Kept (λj=>(Value.slice ia c.ins.length ic).ownBlock=some j) w1.drew wb:=(Kept.new fu).trans (Kept.grown CA (λ_ h=>h)) (λ_ _ h=>h);have Bb:=B1d.kept kb (λh=>gY h);have Tb:=T1d.kept kb (λh=>by have:=tS _ h;omega);refine⟨⟨Bb,Tb⟩,?_⟩;obtain⟨ib,icb,rfl⟩:=fS.slice;push_cast -dsimp;refine aC Bb (by simp) rfl ?_;intro wc jV;have zc:=jV.size;have Bc:aL wc mb 200 [.slice sa us.length sc,.slice ib (c.ins++[x]).length icb,.map (some nb),.bool back]:=jV.aM;have kd9:Kept (λ_=>False) w1 w1.drew:=(Kept.refl _ _).drew;have kc:Kept (λj=>(Value.slice ia c.ins.length ic).ownBlock=some j\/j=mb) w1 wc:=((kd9.weaken (λ_ _ h=>h.elim)).trans kb (λ_ _ h=>.inl h)).trans jV.kept (λ_ _ h=>.inr h);have QS:=fS.aJ jV.kept (λg hg hh=>by have:=(fS.block g hg).1;have h':g=mb:=hh;omega);have QR:=(wZ.new aV).aJ kc (λg hg hh=>by
  rcases hh with hh|hh
  ·exact lQ g hg hh
  exact ft (by rw[<-hh];exact hg))
 have kw:gM mb w wc:=k1.trans ⟨kc.weaken (λi _ hi=>by
  rw[eO B1];rcases hi with hi|hi
  ·exact .inr (.inr hi)
  exact .inl hi),λi hi=>by
  rw[eO Bc]at hi;rw[eO B1];rcases hi with hi|hi|hi
  ·exact .inl (.inl hi)
  ·exact .inl (.inr (.inl hi))
  rcases mJ i hi with h1|h1
  ·exact .inl (.inr (.inr h1))
  have:wa.heap.size<=i:=h1;exact .inr (by omega)⟩
 have Ct:Mk B mb nb back X wc (aD.push c x):=by
  refine⟨⟨_,_,_,Bc,QR,QS,uQ,ft,λhh=>by have:=(QS.block _ hh).1;omega,qh QR QS (by decide),λi u t h1 h2=>?_⟩,h.lt,by have:=kw.kept.size;omega,h.few,by simp[aD.push];omega,by simp[aD.push];omega⟩;refine((pq i u t h1 h2).below aV.below).OM (λ_=>by simp[ay]) kc (λi hi=>by
   rcases hi with hi|hi
   ·exact .inr (.inr (.inr hi))
   exact .inr (.inl hi)) (λb hb=>?_)
  rcases hb with hb|hb|hb|hb
  ·exact .inl (.inl hb)
  ·exact .inl (.inr (.inl hb))
  ·exact .inl (.inr (.inr (.inl hb)))
  rcases mJ b hb with hh|hh
  ·exact .inl (.inr (.inr (.inr hh)))
  exact .inr (by omega)
 refine⟨trivial,?_⟩;have c1:wc.cell? ⟨mb,1,none⟩=some (.slice ib (c.ins++[x]).length icb):=Bc.cell rfl;push_cast -dsimp[c1];refine⟨by rw[List.length_append];simp only[List.length_cons,List.length_nil];omega,by omega,?_,Ct,kw⟩;congr 1;rw[List.length_append];simp only[List.length_cons,List.length_nil];omega
theorem MkB.below {B mb nb:Nat}{back:Bool}{X:Nat->Prop}{w w':World}{c:aD}{sv iv:Value}{us:List SV}(h:MkB B mb nb back X w c sv iv us)(hb:Below w.heap.size w w'):MkB B mb nb back X w' c sv iv us:=by
 obtain⟨hB,wZ,jS,uQ,ft,gY,lQ,pq⟩:=h;exact⟨hB.below hb hB.lt,wZ.below hb,jS.below hb,uQ,ft,gY,lQ,λi u s h1 h2=>(pq i u s h1 h2).below hb⟩
theorem Tc (t s:List Rg)(ht:t.length<10000000)(hs:s.length<10000000)(X X':Nat->Prop)(v u:Value)(sb:Nat)(w:World)(hv:Sl X 2 (En ay) w v t)(hu:Sl X' 2 (En ay) w u s)(hc:w.cell? ⟨sb,0,none⟩=some u) :
  ar Tryz.prog 171 [v,.pointer (some ⟨sb,0,none⟩)] w λr w'=>r=.bool (s == t)/\Below w.heap.size w w':=by
 obtain⟨a,c,rfl,hcc⟩:=hv.shape;obtain⟨a',c',rfl,aS4⟩:=hu.shape;refine aE Tryz.func171 rfl (by kernel_rfl) [3] rfl ?_;push_cast -dsimp(maxSteps:=4000000) [Tryz.ntmps171];push_cast -dsimp[hc];refine aA (VM s t hs X' X _ _ w hu hv) ?_;rintro _ w1 ⟨rfl,hb⟩;push_cast -dsimp;refine⟨?_,hb⟩;congr 1;by_cases h:s=t
 ·subst h;simp
 rw[decide_eq_false h,beq_eq_false_iff_ne.2 h]
theorem S7 (s:List Rg)(hs:s.length<10000000)(l:List (List Rg))(hl:l.length<1000000000)(hls:∀t∈l,t.length<10000000)(X X':Nat->Prop)(v u:Value)(sb:Nat)(w:World)(hv:dp X w v l)(hu:Sl X' 2 (En ay) w u s)(hc:w.cell? ⟨sb,0,none⟩=some u) :
  ar Tryz.prog 146 [v,.func (.func 171) #[] #[.pointer (some ⟨sb,0,none⟩)]] w λr w'=>((∃i:Nat,r=.int .i64 i/\l[i]?=some s)\/r=.int .i64 (-1))/\Below w.heap.size w w':=by
 obtain⟨a,c,rfl,hcc⟩:=hv.shape;refine aE Tryz.func146 rfl (by kernel_rfl) [4] rfl ?_;push_cast -dsimp(maxSteps:=4000000) [Tryz.ntmps146];refine aK [4,5,8,9,10,11,12,13,14,15,16,17,18] (λz wx=>∃(i:Nat),z 8=.int .i64 i/\i<=l.length/\Below w.heap.size w wx) (λz _=>l.length-(intOf (z 8)).toNat) ?_ ?_
 ·exact⟨0,rfl,Nat.zero_le _,Below.refl _ _⟩
 intro z wx hI;obtain⟨i,h8,hi,hb⟩:=hI;push_cast -dsimp[h8];refine⟨λaj=>?_,λeo=>?_⟩
 ·obtain⟨x,hx,mm,hd,ht⟩:=ah (l:=l) (i:=i) (by omega);obtain⟨b,o,cs,ha,hX,hk,aU,u0,rfl,hu0⟩:=Sl.xw (hv.below hb) hx;subst ha;have c0:wx.cell? ⟨b,o+i,none⟩=some u0:=by simpa using aU 0 u0 rfl
  obtain⟨a0,k0,rfl,hk0⟩:=hu0.shape;push_cast -dsimp[c0,Nat.mul_one];refine⟨⟨by omega,by omega⟩,?_⟩;refine aA (Tc x s (hls x mm) hs X X' _ _ sb wx hu0 (hu.below hb) ((hb.cell (World.block_lt_of_cell? w _ hc)).trans hc)) ?_;rintro _ w1 ⟨rfl,gU⟩;have oT:=hb.trans (gU.mono hb.size);cases cI:(s == x) with
  | true =>
   have ny:s=x:=eq_of_beq cI;subst ny;push_cast -dsimp;exact⟨.inl ⟨i,rfl,hx⟩,oT⟩
  | false =>
   push_cast -dsimp;exact⟨⟨by omega,by omega⟩,⟨i+1,rfl,by omega,oT⟩,by rw[h8];simp only[intOf];omega⟩
 exact⟨.inr trivial,hb⟩
structure Ext (c c':aD):Prop where
 ins:∀(k:Nat) (x:I3),c.ins[k]?=some x->c'.ins[k]?=some x
 sets:∀(k:Nat) (s:List Rg),c.sets[k]?=some s->c'.sets[k]?=some s
 sum:c'.sets.length+c.ins.length<=c.sets.length+c'.ins.length
theorem Ext.refl (c:aD):Ext c c:=⟨λ_ _ h=>h,λ_ _ h=>h,Nat.le_refl _⟩
theorem Ext.trans {a b c:aD}(h:Ext a b)(k:Ext b c):Ext a c:=⟨λi x hx=>k.ins i x (h.ins i x hx),λi x hx=>k.sets i x (h.sets i x hx),by have:=h.sum;have:=k.sum;omega⟩
theorem Ext.push (c:aD)(x:I3):Ext c (aD.push c x):=⟨λk y h=>by
 show (c.ins++[x])[k]?=some y
 rw[List.getElem?_append_left (List.getElem?_eq_some_iff.1 h).1];exact h,λ_ _ h=>h,by simp[aD.push]⟩
theorem OP {B mb nb:Nat}{back:Bool}{X:Nat->Prop}{w:World}{c:aD}{sv iv:Value}{us:List SV}(h:Mk B mb nb back X w c)(hM:MkB B mb nb back X w c sv iv us)(qS:c.sets.length<=c.ins.length)(s:List Rg)(hr:aO (-2) s=true)(v:Value)
  (hv:Sl (λb=>X b\/b=mb\/sv.ownBlock=some b\/iv.ownBlock=some b) 2 (En ay) w v s) :
  xl Tryz.prog 135 [.pointer (some ⟨mb,0,none⟩),v] w
   (λr w'=>c.ins.length<2000/\(∃(c':aD) (i:Nat),Mk B mb nb back X w' c'/\Ext c c'/\c'.ins.length=c.ins.length+1/\c'.ins[c.ins.length]?=some ⟨1,(i:Int),0⟩/\c'.sets[i]?=some s)/\gM mb w w') (λce w'=>c.ins.length=2000/\Kp 4 ce/\gM mb w w'):=by
 obtain⟨hB,wZ,jS,uQ,ft,gY,lQ,pq⟩:=hM;obtain⟨sa,sc,rfl⟩:=wZ.slice;obtain⟨ia,ic,rfl⟩:=jS.slice;obtain⟨va,vc,rfl,hvc⟩:=hv.shape;have hle:=h.le;have aj:=h.lt;have WU:=h.num;have oh:=eI hr;refine bG Tryz.func135 rfl (by kernel_rfl) [] rfl ?_;push_cast -dsimp(maxSteps:=4000000) [Tryz.ntmps135];refine aR ?_;intro w1 aV;have aV:mg w w1 139 [.slice va s.length vc]:=aV;have z1:=aV.size;have T1:=aV.aM;have B1:=hB.below aV.below hB.lt;have f0:w1.cell? ⟨mb,0,none⟩=some (.slice sa us.length sc):=B1.cell rfl;have t0:w1.cell? ⟨w.heap.size,0,none⟩=some (.slice va s.length vc):=T1.cell rfl;push_cast -dsimp[f0];have hSV:dp (λ_=>False) w1 (.slice sa us.length sc) c.sets:=dp.rO uQ ((wZ.new aV).sl.weaken (λ_ h=>h.elim)) (λi u s h1 h2=>((pq i u s h1 h2).below aV.below).weaken (λ_ h=>h.elim));refine aA (S7 s (by omega) c.sets (by omega) (λx hx=>by have:=eI (h.few x hx);omega) (λ_=>False) (λ_=>False) (.slice sa us.length sc) (.slice va s.length vc) w.heap.size w1 hSV ((hv.below aV.below).weaken (λ_ h=>h.elim)) t0) ?_;rintro r w2 ⟨uO,dt⟩;have z2:=dt.size;have iP:=aV.below.trans (dt.mono (by omega));have k2:gM mb w w2:=gM.below iP (by omega);rcases uO with ⟨i,rfl,hi⟩|rfl
 ·push_cast -dsimp;refine⟨λh0=>by omega,λh0=>?_⟩;refine aF (td (h.below iP) (by omega) ⟨1,(i:Int),0⟩) ?_ ?_
  ·rintro _ w3 ⟨hl,rfl,Fm,k3⟩;push_cast -dsimp;exact⟨hl,⟨_,i,Fm,Ext.push c _,by simp[aD.push],by show (c.ins++[_])[c.ins.length]?=_;rw[List.getElem?_append_right (Nat.le_refl _),Nat.sub_self];rfl,hi⟩,k2.trans k3⟩
  rintro ce w3 ⟨hl,ht,k3⟩;push_cast -dsimp;exact⟨hl,ht,k2.trans k3⟩
 push_cast -dsimp;have B2:=B1.below dt B1.lt;have T2:=T1.below dt T1.lt;have B2d:=B2.drew;have T2d:=T2.drew;refine dU (λw'=>aL w' mb 200 [.slice sa us.length sc,.slice ia c.ins.length ic,.map (some nb),.bool back]/\aL w' w.heap.size 139 [.slice va s.length vc]) mixed (by kernel_rfl) (by simp) ⟨B2d,T2d⟩ ?_;have g0:w2.drew.cell? ⟨mb,0,none⟩=some (.slice sa us.length sc):=B2d.cell rfl;have g1:w2.drew.cell? ⟨w.heap.size,0,none⟩=some (.slice va s.length vc):=T2d.cell rfl;push_cast -dsimp[g0,g1];refine⟨λbE h=>by rw[h.1.cell (o:=0) rfl];exact rfl,λbE h=>by rw[h.2.cell (o:=0) rfl];exact rfl,?_⟩;refine cG nA rfl rfl (by omega) ?_;intro wa fu;have za:wa.heap.size=w2.heap.size+1:=fu.size;have Ba:=B2d.below fu.below B2d.lt;have Ta:=T2d.below fu.below T2d.lt;refine⟨⟨Ba,Ta⟩,?_⟩;have aL1:Vc.Own B 139 1 j9 w2.drew (.slice sa us.length sc) us:=((wZ.new aV).below dt).aJ ((Kept.refl (λ_=>False) w2).drew) (λ_ _ h=>h);have aL0:=aL1.new fu;push_cast -dsimp;refine aW (base:=B) [(⟨va,s.length,vc⟩:SV)] (enc:=j9) nA aL0 (by rfl) (λj u hu=>by simpa[j9,SV.v] using fu.cell hu) vX (by simp only[List.length_cons,List.length_nil];omega) (by show B<=wa.heap.size;omega) ?_
 intro vb wb fS CA mJ;have so:∀g,(Value.slice sa us.length sc).ownBlock=some g->B<=g/\g<w.heap.size:=λg hg=>wZ.block g hg;have kb:Kept (λj=>(Value.slice sa us.length sc).ownBlock=some j) w2.drew wb:=(Kept.new fu).trans (Kept.grown CA (λ_ h=>h)) (λ_ _ h=>h);have Bb:=B2d.kept kb (λh=>ft h);have Tb:=T2d.kept kb (λh=>by have:=so _ h;omega);refine⟨⟨Bb,Tb⟩,?_⟩;have zb:w2.heap.size+1<=wb.heap.size:=by have:=CA.size;omega
 obtain⟨ib,icb,rfl⟩:=fS.slice;push_cast -dsimp;refine aC Bb (by simp) rfl ?_;intro wc jV;have zc:=jV.size;have Bc:aL wc mb 200 [.slice ib (us++[(⟨va,s.length,vc⟩:SV)]).length icb,.slice ia c.ins.length ic,.map (some nb),.bool back]:=jV.aM;have c0:wc.cell? ⟨mb,0,none⟩=some (.slice ib (us++[(⟨va,s.length,vc⟩:SV)]).length icb):=Bc.cell rfl;have kd2:Kept (λ_=>False) w2 w2.drew:=(Kept.refl _ _).drew;have kc:Kept (λj=>(Value.slice sa us.length sc).ownBlock=some j\/j=mb) w2 wc:=((kd2.weaken (λ_ _ h=>h.elim)).trans kb (λ_ _ h=>.inl h)).trans jV.kept (λ_ _ h=>.inr h);have hlu:(us++[(⟨va,s.length,vc⟩:SV)]).length=c.sets.length+1:=by simp[uQ]
 have kw:gM mb w wc:=k2.trans ⟨kc.weaken (λi _ hi=>by
  rw[eO B2];rcases hi with hi|hi
  ·exact .inr (.inl hi)
  exact .inl hi),λi hi=>by
  rw[eO Bc]at hi;rw[eO B2];rcases hi with hi|hi|hi
  ·exact .inl (.inl hi)
  ·rcases mJ i hi with h1|h1
   ·exact .inl (.inr (.inl h1))
   have:wa.heap.size<=i:=h1;exact .inr (by omega)
  exact .inl (.inr (.inr hi))⟩
 have QR:=fS.aJ jV.kept (λg hg hh=>by have:=(fS.block g hg).1;have h':g=mb:=hh;omega);have QS:Vc.Own B 164 3 bN wc (.slice ia c.ins.length ic) c.ins:=(jS.below iP).aJ kc (λg hg hh=>by
  rcases hh with hh|hh
  ·exact lQ g hh hg
  exact gY (by rw[<-hh];exact hg))
 have yG:∀b,(X b\/b=mb\/(Value.slice ib (us++[(⟨va,s.length,vc⟩:SV)]).length icb).ownBlock=some b\/(Value.slice ia c.ins.length ic).ownBlock=some b)->(X b\/b=mb\/(Value.slice sa us.length sc).ownBlock=some b\/(Value.slice ia c.ins.length ic).ownBlock=some b)\/w2.heap.size<=b:=λb hb=>by
  rcases hb with hb|hb|hb|hb
  ·exact .inl (.inl hb)
  ·exact .inl (.inr (.inl hb))
  ·rcases mJ b hb with h1|h1
   ·exact .inl (.inr (.inr (.inl h1)))
   have:wa.heap.size<=b:=h1;exact .inr (by omega)
  exact .inl (.inr (.inr (.inr hb)))
 have hkc:∀i,((Value.slice sa us.length sc).ownBlock=some i\/i=mb)->(X i\/i=mb\/(Value.slice sa us.length sc).ownBlock=some i\/(Value.slice ia c.ins.length ic).ownBlock=some i):=λi hi=>by
  rcases hi with hi|hi
  ·exact .inr (.inr (.inl hi))
  exact .inr (.inl hi)
 have Mc:Mk B mb nb back X wc ⟨c.sets++[s],c.ins⟩:=by
  refine⟨⟨_,_,_,Bc,QR,QS,by simp[uQ],λhh=>by have:=(QR.block _ hh).1;omega,gY,qh QR QS (by decide),λi u x h1 h2=>?_⟩,h.lt,by have:=kw.kept.size;omega,λx hx=>?_,h.num,by simp only[List.length_append,List.length_cons,List.length_nil];omega⟩
  ·have qO:i<(us++[(⟨va,s.length,vc⟩:SV)]).length:=(List.getElem?_eq_some_iff.1 h1).1;by_cases hi:i<us.length
   ·rw[List.getElem?_append_left hi]at h1;rw[List.getElem?_append_left (by omega)]at h2;exact((pq i u x h1 h2).below iP).OM (λ_=>by simp[ay]) kc hkc yG
   have e:i=us.length:=by rw[List.length_append,List.length_cons,List.length_nil]at qO;omega
   subst e;rw[List.getElem?_append_right (Nat.le_refl _),Nat.sub_self]at h1;rw[uQ,List.getElem?_append_right (Nat.le_refl _),Nat.sub_self]at h2;simp at h1 h2;subst h1;subst h2;exact(hv.below iP).OM (λ_=>by simp[ay]) kc hkc yG
  rw[List.mem_append,List.mem_singleton]at hx;rcases hx with hx|rfl
  ·exact h.few x hx
  exact hr
 refine⟨trivial,?_⟩;push_cast -dsimp[c0];have hk:(((us++[(⟨va,s.length,vc⟩:SV)]).length:Nat):Int)-1=(c.sets.length:Nat):=by rw[hlu];omega
 refine⟨by omega,?_⟩;rw[hk];refine aF (td Mc (by simp only[List.length_append,List.length_cons,List.length_nil];omega) ⟨1,(c.sets.length:Int),0⟩) ?_ ?_
 ·rintro _ w3 ⟨hl,rfl,Fm,k3⟩;push_cast -dsimp;refine⟨hl,⟨_,c.sets.length,Fm,⟨λk y hy=>?_,λk y hy=>?_,by simp[aD.push];omega⟩,by simp[aD.push],by show (c.ins++[_])[c.ins.length]?=_;rw[List.getElem?_append_right (Nat.le_refl _),Nat.sub_self];rfl,by show (c.sets++[s])[c.sets.length]?=_;rw[List.getElem?_append_right (Nat.le_refl _),Nat.sub_self];rfl⟩,kw.trans k3⟩
  ·show (c.ins++[_])[k]?=some y
   rw[List.getElem?_append_left (List.getElem?_eq_some_iff.1 hy).1];exact hy
  show (c.sets++[s])[k]?=some y
  rw[List.getElem?_append_left (List.getElem?_eq_some_iff.1 hy).1];exact hy
 rintro ce w3 ⟨hl,ht,k3⟩;push_cast -dsimp;exact⟨hl,ht,kw.trans k3⟩
end Go.Proofs.YtemjejfpadnljaaGreatDoor
end
