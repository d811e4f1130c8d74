/- Part. -/
import Derived.Test.YtemjejfpadnljaaGreatDoorM12
import Derived.Shelf.Strings.IndexAnyAll
set_option maxRecDepth 100000
set_option linter.unusedSimpArgs false
set_option linter.unusedVariables false
set_option maxHeartbeats 8000000
namespace Go.Proofs.YtemjejfpadnljaaGreatDoor
section
open Go.Vc Go.Proofs Go.RowKit Cae
def oF (els:Bool)(ps:List Int)(i:Nat)(l:List bo):Bool:=l.foldr (λr acc=>if fi ps i r then r.brk else acc) els
theorem RG (p:bh)(ps:List Int)(i:Nat):fJ p ps i 0=oF p.els ps i p.rules:=by unfold fJ oF;rw[List.drop_zero]
theorem mn (els:Bool)(ps:List Int)(i:Nat)(a b:List bo):oF els ps i (a++b)=oF (oF els ps i b) ps i a:=by unfold oF;rw[List.foldr_append]
theorem nV (els:Bool)(ps:List Int)(i:Nat)(r:bo)(l:List bo):oF els ps i (r::l)=if fi ps i r then r.brk else oF els ps i l:=rfl
theorem Tp {p:bh}{out:List bo}(h:∀ps i,oF p.els ps i p.rules=oF p.els ps i out)(ps:List Int):dH ⟨out,p.els⟩ ps=dH p ps:=by
 unfold dH bg;congr 2;funext i;unfold gz;rw[RG,RG,h]
def jO:List bo->Nat
 | []=>0
 | r::l=>r.before.ins.length+r.after.ins.length+jO l
theorem yV:∀(a b:List bo),jO (a++b)=jO a+jO b
 | [],b=>by simp[jO]
 | r::a,b=>by rw[List.cons_append,jO,jO,yV a b];omega
def nu (c:aE):Bool:=match c.ins[0]? with
 | none=>false
 | some x=>decide (x.op=1) && decide ((c.sets.getD x.a.toNat []).length=0)
def uz (c:aE):Bool:=match c.ins[0]? with
 | none=>false
 | some x=>decide (x.op=5)
theorem Jo {c:aE}(hc:CR c)(h:nu c=true)(ps:List Int):(fK c ps).1=false:=by
 cases hm:(fK c ps).1 with
 | false=>rfl
 | true =>
  have ha:=(n0 hc ps).1 hm;unfold nu at h;cases hx:c.ins[0]? with
  | none=>rw[hx]at h;cases h
  | some x =>
   rw[hx]at h;simp only[Bool.and_eq_true,decide_eq_true_eq]at h;rw[iH hx (by omega)]at ha;obtain⟨p,r,_,hp,_⟩:=ha;rw[List.eq_nil_of_length_eq_zero h.2]at hp;exact absurd hp (by simp[fO])
theorem Rl {c:aE}(hc:CR c)(h:uz c=true)(ps:List Int):(fK c ps).1=true:=by
 rw[n0 hc];unfold uz at h;cases hx:c.ins[0]? with
 | none=>rw[hx]at h;cases h
 | some x =>
  rw[hx]at h;exact mR hx (by simpa using h)
structure gH (r s:bo):Prop where
 brk:s.brk=r.brk
 cb:CR r.before
 ca:CR r.after
 before:ft r.before s.before
 after:ft r.after s.after
theorem gH.met {r s:bo}(h:gH r s)(ps:List Int)(i:Nat):fi ps i s=fi ps i r:=by
 unfold fi;rw[h.before.vm h.cb,h.after.vm h.ca]
theorem gH.dead {r s:bo}(h:gH r s)(hd:nu s.before=true\/nu s.after=true)(ps:List Int)(i:Nat):fi ps i r=false:=by
 rw[<-h.met];unfold fi;rcases hd with hd|hd
 ·rw[Jo h.before.cr hd];rfl
 rw[Jo h.after.cr hd];simp
theorem gH.yes {r s:bo}(h:gH r s)(h1:uz s.before=true)(h2:uz s.after=true)(ps:List Int)(i:Nat):fi ps i s=true:=by
 unfold fi;rw[Rl h.before.cr h1,Rl h.after.cr h2];rfl
def Mq (p:bh):Prop:=∃r l,p.rules=r::l/\(r.before.ins.length=1/\Acc r.before 0 [])/\(r.after.ins.length=1/\Acc r.after 0 [])
def Mu (r:bo):Prop:=(aW r.before=true/\aW r.after=true)/\nj r.before/\nj r.after
theorem gH.ok {r s:bo}(h:gH r s):Mu s:=by
 have a1:=h.before.cr.many;have a2:=h.before.cr.sets;have a3:=h.after.cr.many;have a4:=h.after.cr.sets;exact⟨⟨h.before.cr.to,h.after.cr.to⟩,⟨h.before.lens,by omega,by omega⟩,h.after.lens,by omega,by omega⟩
structure rD (p:bh)(out:List bo):Prop where
 Ui:∀ps i,oF p.els ps i p.rules=oF p.els ps i out
 len:out.length<=p.rules.length
 size:jO out<=jO p.rules
 right:∀r∈out,Mu r
 one:Mq p->out.length<=1
structure vI (p:bh)(k:Nat)(out:List bo):Prop where
 Ui:∀ps i,oF p.els ps i p.rules=oF p.els ps i (out++p.rules.drop k)
 len:out.length<=k
 size:jO out+jO (p.rules.drop k)<=jO p.rules
 right:∀r∈out,Mu r
 one:Mq p->k=0
theorem vI.zero (p:bh):vI p 0 []:=⟨λ_ _=>by rw[List.drop_zero];rfl,Nat.le_refl _,by rw[List.drop_zero,jO];omega,λ_ h=>by simp at h,λ_=>rfl⟩
theorem drop_at {α:Type}{l:List α}{k:Nat}{r:α}(h:l[k]?=some r):l.drop k=r::l.drop (k+1):=by
 have aq:=(List.getElem?_eq_some_iff.1 h).1;rw[List.drop_eq_getElem_cons aq]
 have:=List.getElem?_eq_getElem aq;rw[h]at this;cases this;rfl
theorem BF {p:bh}{r s:bo}(hA:Mq p)(hr:p.rules[0]?=some r)(h:gH r s):uz s.before=true/\uz s.after=true/\nu s.before=false/\nu s.after=false:=by
 obtain⟨r',l,e,⟨b1,b2⟩,a1,a2⟩:=hA;rw[e]at hr;cases hr;have e1:=h.before.one b1 b2;have e2:=h.after.one a1 a2;unfold uz nu;rw[e1,e2];exact⟨rfl,rfl,rfl,rfl⟩
theorem vI.gone {p:bh}{k:Nat}{out:List bo}{r s:bo}(h:vI p k out)(hr:p.rules[k]?=some r)(hs:gH r s)(hd:nu s.before=true\/nu s.after=true):vI p (k+1) out:=by
 refine⟨λps i=>?_,by have:=h.len;omega,?_,h.right,λhA=>?_⟩
 ·rw[h.Ui,drop_at hr,mn,mn,nV,hs.dead hd];rfl
 ·have:=h.size;rw[drop_at hr,jO]at this;omega
 have:=h.one hA;subst this;have hh:=BF hA hr hs;rcases hd with hd|hd
 ·rw[hd]at hh;exact absurd hh.2.2.1 (by simp)
 rw[hd]at hh;exact absurd hh.2.2.2 (by simp)
theorem vI.more {p:bh}{k:Nat}{out:List bo}{r s:bo}(h:vI p k out)(hr:p.rules[k]?=some r)(hs:gH r s)(hn:¬(uz s.before=true/\uz s.after=true)):vI p (k+1) (out++[s]):=by
 refine⟨λps i=>?_,by rw[List.length_append];have:=h.len;simp only[List.length_cons,List.length_nil];omega,?_,λx hx=>?_,λhA=>?_⟩
 ·rw[h.Ui,drop_at hr,List.append_assoc,List.singleton_append,mn,mn,nV,nV,hs.met,hs.brk]
 ·have:=h.size;have b:=hs.before.len;have a:=hs.after.len;rw[drop_at hr,jO]at this;rw[yV,jO,jO];omega
 ·rcases List.mem_append.1 hx with hx|hx
  ·exact h.right x hx
  simp at hx;subst hx;exact hs.ok
 have:=h.one hA;subst this;have hh:=BF hA hr hs;exact absurd ⟨hh.1,hh.2.1⟩ hn
theorem vI.last {p:bh}{k:Nat}{out:List bo}{r s:bo}(h:vI p k out)(hr:p.rules[k]?=some r)(hs:gH r s)(h1:uz s.before=true)(h2:uz s.after=true):rD p (out++[s]):=by
 have aq:=(List.getElem?_eq_some_iff.1 hr).1;refine⟨λps i=>?_,by rw[List.length_append];have:=h.len;simp only[List.length_cons,List.length_nil];omega,?_,λx hx=>?_,λhA=>?_⟩
 ·have hm:=hs.yes h1 h2 ps i;have QY:=hs.met ps i;rw[hm]at QY;rw[h.Ui,drop_at hr,mn,mn,nV,nV,hm,<-QY,hs.brk];rfl
 ·have:=h.size;have b:=hs.before.len;have a:=hs.after.len;rw[drop_at hr,jO]at this;rw[yV,jO,jO];omega
 ·rcases List.mem_append.1 hx with hx|hx
  ·exact h.right x hx
  simp at hx;subst hx;exact hs.ok
 have:=h.one hA;subst this
 have:=h.len;rw[List.length_append];simp only[List.length_cons,List.length_nil];omega
theorem vI.done {p:bh}{k:Nat}{out:List bo}(h:vI p k out)(hk:k=p.rules.length):rD p out:=by
 subst hk;have hd:p.rules.drop p.rules.length=[]:=List.drop_eq_nil_of_le (Nat.le_refl _);refine⟨λps i=>?_,h.len,?_,h.right,λhA=>?_⟩
 ·rw[h.Ui,hd,List.append_nil]
 ·have:=h.size;rw[hd,jO]at this;omega
 have:=h.one hA;obtain⟨r,l,e,_⟩:=hA;rw[e]at this;simp at this
theorem rD.right' {p:bh}{out:List bo}(h:rD p out)(hp:bL p=true)(els:Bool):bL ⟨out,els⟩=true:=by
 have h1:=(eS hp).1;have h2:=h.len;unfold bL;simp only[Bool.and_eq_true,decide_eq_true_eq,List.all_eq_true];exact⟨by omega,λr hr=>(h.right r hr).1⟩
end
section
open Go.Vc Go.Proofs Go.RowKit Cae
attribute [local irreducible] dN ae ak aY runK aw Sl Vc.Own vc aV cJ a7
theorem XU (c:aE)(hc:CR c)(X:Nat->Prop)(v:Value)(w:World)(hv:cz X w v c) :
  aw Tryz.prog 74 [v] w λr w'=>r=.bool (nu c)/\Below w.heap.size w w':=by
 have hm:=hc.many;have uP:=hc.one;have TW:=hc.sets;obtain⟨sv,iv,rfl,uU,vA⟩:=hv;obtain⟨a,cp,rfl,TG⟩:=vA.shape;have IA:=uU.shape;obtain⟨sa,sc,rfl,yI⟩:=IA;have rB:=eH.values uU;obtain⟨us,aRf,aHU,aHV⟩:=rB;have hg:=ag (l:=c.ins) (i:=0) (by omega);obtain⟨x,hx,jJ,_⟩:=hg;refine aD Tryz.func74 rfl (by kernel_rfl) [2] rfl ?_;push_cast -dsimp(maxSteps:=9^7) [Tryz.ntmps74];refine aS ?_;intro w1 aU;have aU:mN w w1 127 [.slice sa c.sets.length sc,.slice a c.ins.length cp]:=aU;have qw:=aU.size;have hg:=(vA.below aU.below).get hx;obtain⟨ib,io,rfl,_,hic⟩:=hg;push_cast -dsimp;refine bu (λw'=>w'=w1.drew) mixed (by kernel_rfl) rfl ?_;have hB:aN w1.drew w.heap.size 127 [.slice sa c.sets.length sc,.slice (some ⟨ib,io,none⟩) c.ins.length cp]:=aU.aL.drew;have t1:w1.drew.cell? ⟨w.heap.size,1,none⟩=some (.slice (some ⟨ib,io,none⟩) c.ins.length cp):=hB.cell rfl;have t0:w1.drew.cell? ⟨w.heap.size,0,none⟩=some (.slice sa c.sets.length sc):=hB.cell rfl;have c0:w1.drew.cell? ⟨ib,io,none⟩=some (.int .i64 x.op):=by have:=hic 0 _ rfl;simpa using this
 have c1:w1.drew.cell? ⟨ib,io+1,none⟩=some (.int .i64 x.a):=by have:=hic 1 _ rfl;simpa using this
 have hdp:nu c=(decide (x.op=1) && decide ((c.sets.getD x.a.toNat []).length=0)):=by unfold nu;rw[hx]
 push_cast -dsimp[t1,t0,c0,c1];have L:∀{ad:Addr} {u:Value},w1.drew.cell? ad=some u->∀bQ:World,bQ=w1.drew->pP (bQ.cell? ad) (λx=>x=u) .mk:=λh bQ e=>by rw[e,h];exact rfl
 have qp:Below w.heap.size w w1.drew:=aU.below.drew;refine⟨L t1,by omega,L c0,λh1=>⟨L t0,L t1,by omega,L c1,?_⟩,λh1=>⟨by rw[hdp,decide_eq_false h1];rfl,qp⟩⟩;have hj:=jL hc hx (by omega);have Hg:x.a=((x.a.toNat:Nat):Int):=by rw[Int.toNat_of_nonneg hj.2.1]
 have Yn:=List.getElem?_eq_getElem (l:=us) (i:=x.a.toNat) (by omega);have hug:=aHU.get Yn;obtain⟨ub,uo,rfl,_,huc⟩:=hug;have hes:=List.getElem?_eq_getElem (l:=c.sets) (i:=x.a.toNat) (by omega);have eN:=(aHV _ _ _ Yn hes).shape;obtain⟨ua,uc,hev,_⟩:=eN;have csv:w1.drew.cell? ⟨ub,uo+x.a.toNat,none⟩=some (.slice ua (c.sets[x.a.toNat]'(by omega)).length uc):=by
  have:=huc 0 _ rfl;rw[Nat.mul_one,Nat.add_zero,hev]at this;exact(Kept.aQ qp (X:=λ_=>False) (λk hk hl=>by omega)).cell this id
 have Vb:c.sets.getD x.a.toNat []=c.sets[x.a.toNat]'(by omega):=by rw[List.getD_eq_getElem?_getD,hes];rfl
 have hgl:∃n,(c.sets[x.a.toNat]'(by omega)).length=n:=⟨_,rfl⟩;obtain⟨n,hn⟩:=hgl;rw[Vb,hn,decide_eq_true h1,Bool.true_and]at hdp;rw[hn]at csv;push_cast -dsimp[csv];refine⟨⟨by omega,by omega⟩,L csv,?_⟩;rw[hdp];exact⟨by congr 1;rw[decide_eq_decide];omega,qp⟩
def GZ (Y:Nat->Prop)(p:bh)(r:Value)(w':World):Prop :=
 if bL p=true then ∃out v,r=.tuple #[v,.nilIface]/\rD p out/\iz Y w' v ⟨out,p.els⟩ else r=.tuple #[.agg #[.slice none 0 0,.bool false],.iface 74 (.int .i64 1)]
theorem U2 (p:bh)(hl:nk p)(Y:Nat->Prop)(v:Value)(w:World)(hY:∀b,Y b->b<w.heap.size)(hN:iy w)(hv:iz Y w v p) :
  aw Tryz.prog 47 [v] w λr w'=>GZ Y p r w'/\Below w.heap.size w w':=by
 have Kr:=hv;obtain⟨rv,rfl,hr⟩:=hv;obtain⟨a,cp,rfl,TG⟩:=hr.shape;refine iI Tryz.func47 rfl (by kernel_rfl) [.cell 2 71,.tmp 3] rfl ?_;push_cast -dsimp(maxSteps:=9^7) [Tryz.ntmps47];refine aS ?_;intro w1 aU;have aU:mN w w1 71 [.slice a p.rules.length cp,.bool p.els]:=aU;have qw:=aU.size;push_cast -dsimp;refine ah (z:=[.slice none 0 0,.bool false]) (by kernel_rfl) ?_;intro w2 bP;have EE:=bP.size;have dt:Below w.heap.size w w2:=aU.below.trans (bP.below.mono (by omega));have gy:aN w2 w.heap.size 71 [.slice a p.rules.length cp,.bool p.els]:=aU.aL.below bP.below (by omega);have AP:aN w2 w1.heap.size 71 [.slice none 0 0,.bool false]:=bP.aL;have d2:=gy.aB;simp only[List.length_cons,List.length_nil,Nat.zero_add,Nat.reduceAdd]at d2;push_cast -dsimp[d2];refine aA (jz p hl _ _ w2 (Kr.below dt)) ?_;rintro _ w3 ⟨rfl,gB⟩;have PA:=gB.size;have Nd:=gy.below gB (by omega);have hR3:=AP.below gB (by omega);have dA:Below w.heap.size w w3:=dt.trans (gB.mono (by omega));unfold GZ;cases hPR:bL p with
 | false =>
  push_cast -dsimp;refine aI (n:=2) (by kernel_rfl) hR3 rfl (by simp) (by simp[Value.oneCell']) ?_;intro w4 aj;have q4:aB w4 ⟨w1.heap.size,0,none⟩ 0 2=some [.slice none 0 0,.bool false]:=aj.aL.aB;push_cast -dsimp[q4,Bool.false_eq_true,if_false];exact dA.trans (aj.kept.below (by omega) (λ_ h=>by omega))
 | true =>
  have Yi:=eS hPR;obtain⟨aQt,cg⟩:=Yi;have c3:w3.cell? ⟨w.heap.size,1,none⟩=some (.bool p.els):=Nd.cell rfl;push_cast -dsimp[c3];refine ah (z:=[.slice none 0 0,.bool false]) (by kernel_rfl) ?_;intro w4 aj;have Mn:=aj.size;push_cast -dsimp;refine aI (n:=2) (by kernel_rfl) aj.aL rfl (by simp) (by simp[Value.oneCell']) ?_;intro w5 cG;have PC:=cG.size;have k5:Kept (λj=>j=w3.heap.size) w3 w5:=(Kept.new aj).trans cG.kept (λ_ _ h=>h);have Hd:=Nd.kept k5 (by omega);have hR5:=hR3.kept k5 (by omega);have hW5:aN w5 w3.heap.size 71 [.slice none 0 0,.bool p.els]:=cG.aL;have jq:Below w.heap.size w w5:=dA.trans (k5.below (by omega) (λ_ h=>by omega));have c5:w5.cell? ⟨w.heap.size,0,none⟩=some (.slice a p.rules.length cp):=Hd.cell rfl;push_cast -dsimp[c5];refine aK [3,6,7,8,9,10,22,23,24,25,26,27,28,29,30,31,32,33,34,35,36,37,38,39,40,41,42,43,44,45,46,47,48,49,50,51,52,53,54,55,56,57,58,59,60,61,62,63,64,65,66,67,68,69,70,71,72,73,74,75,76] (λz wx=>∃(k:Nat) (out:List bo) (us:List PV) (ov:Value),z 22=.int .i64 k/\k<=p.rules.length/\vI p k out/\aN wx w3.heap.size 71 [ov,.bool p.els]/\Vc.Own w5.heap.size 129 5 gi wx ov us/\us.length=out.length /\
    (∀(i:Nat) (s:bo),out[i]?=some s->∃u,us[i]?=some u/\eL (λb=>(b=w1.heap.size\/b=w3.heap.size\/ov.ownBlock=some b)\/Y b) wx (gi u) s) /\
    aN wx w1.heap.size 71 [.slice none 0 0,.bool false]/\Below w.heap.size w wx/\w5.heap.size<=wx.heap.size) (λz _=>p.rules.length-(intOf (z 22)).toNat) ?_ ?_
  ·exact⟨0,[],[],_,rfl,Nat.zero_le _,vI.zero p,hW5,Vc.Own.nil (enc:=gi) _ _ (λ_=>rfl) _,rfl,λi s h=>by simp at h,hR5,jq,Nat.le_refl _⟩
  intro z wx hI;obtain⟨k,out,us,ov,h22,hk,hP,hWx,eU,uV,Yn,vh,bS,A5⟩:=hI;push_cast -dsimp[h22];refine⟨λaq=>?_,λeo=>?_⟩
  ·have hg:=ag (l:=p.rules) (i:=k) (by omega);obtain⟨r,hx,jJ,_⟩:=hg;have Ye:=cg r jJ;have Hw:=hl.2 r jJ;have hg:=hr.AJ hx;obtain⟨b,o,cs,rfl,_,jE,aG9,hRr⟩:=hg;obtain⟨sv1,iv1,sv2,iv2,rfl,hv1,hv2⟩:=hRr;have aM:∀j u,([.bool r.brk,sv1,iv1,sv2,iv2]:List Value)[j]?=some u->wx.cell? ⟨b,o+k*5+j,none⟩=some u:=λj u hu=>(Kept.aQ bS (X:=λ_=>False) (λk hk hl=>by omega)).cell (aG9 j u hu) id;have cp5:aB wx ⟨b,o+k*5,none⟩ 0 5=some [.bool r.brk,sv1,iv1,sv2,iv2]:=ao _ 0 (λj u hu=>by simpa using aM j u hu);have aRg:=hv1;have aRh:=hv2;obtain⟨_,_,he,gE,QR⟩:=hv1;cases he;obtain⟨_,_,he,iC,QS⟩:=hv2;cases he;have eN:=gE.shape;obtain⟨x1,y1,rfl,_⟩:=eN;have eN:=iC.shape;obtain⟨x2,y2,rfl,_⟩:=eN;have eN:=QR.shape;obtain⟨a1,k1,rfl,_⟩:=eN;have eN:=QS.shape;obtain⟨a2,k2,rfl,_⟩:=eN;push_cast -dsimp[cp5];refine⟨⟨by omega,by omega⟩,?_⟩;refine ah (z:=[.bool false,.slice none 0 0,.slice none 0 0,.slice none 0 0,.slice none 0 0]) (by kernel_rfl) ?_;intro wa eB;have Vp:=eB.size;push_cast -dsimp;refine aI (n:=5) (by kernel_rfl) eB.aL rfl (by simp) (by simp[Value.oneCell']) ?_;intro wb cH;have PD:=cH.size;have kb:Below wx.heap.size wx wb:=eB.below.trans (cH.kept.below (by omega) (λ_ h=>by omega));have Nn:aN wb wx.heap.size 129 [.bool r.brk,.slice x1 r.before.sets.length y1,.slice a1 r.before.ins.length k1,.slice x2 r.after.sets.length y2,.slice a2 r.after.ins.length k2]:=cH.aL
   have e1:aB wb ⟨wx.heap.size,1,none⟩ 0 2=some [.slice x1 r.before.sets.length y1,.slice a1 r.before.ins.length k1]:=lE (n:=2) Nn 1 rfl rfl;have hgX:∃X,X=(λb=>b=w1.heap.size\/b=w3.heap.size\/ov.ownBlock=some b):=⟨_,rfl⟩;obtain⟨X,hX⟩:=hgX;have huX:∀(i:Nat) (s:bo),out[i]?=some s->∃u,us[i]?=some u/\eL (λb=>X b\/Y b) wx (gi u) s:=by rw[hX];exact Yn
   have hXw:∀b,X b->w.heap.size<=b/\b<wx.heap.size:=λb h=>by
    rw[hX]at h;rcases h with h|h|h
    ·omega
    ·omega
    have:=eU.block b h;omega
   have aCN:cz (λb=>X b\/Y b) w _ r.before:=aRg.narrow (X':=λb=>X b\/Y b) (λb hb h=>h.elim (λh=>by have:=hXw b h;omega) id);have aCO:cz (λb=>X b\/Y b) w _ r.after:=aRh.narrow (X':=λb=>X b\/Y b) (λb hb h=>h.elim (λh=>by have:=hXw b h;omega) id);have jf:Below w.heap.size w wb:=bS.trans (kb.mono (by omega));have j6:=(CR.of Ye.1).many;have dK:=(CR.of Ye.1).sets;have hm3:=(CR.of Ye.2).many;have hm4:=(CR.of Ye.2).sets;push_cast -dsimp[e1];refine aA (XH r.before Hw.1.1 (by omega) (by omega) (λb=>X b\/Y b) _ wb (λb h=>h.elim (λh=>by have:=hXw b h;omega) (λh=>by have:=hY b h;omega)) (hN.below jf) (aCN.below jf)) ?_;rintro r1 wc ⟨x9,ng⟩;have szc:=ng.size;unfold PZ at x9;rw[if_pos Ye.1]at x9;obtain⟨d1,dv1,rfl,hL1,hd1⟩:=x9;have aPI:=hd1;obtain⟨_,_,rfl,aPQ,aPN⟩:=hd1;have eN:=aPQ.shape;obtain⟨Vn,Vo,rfl,_⟩:=eN;have eN:=aPN.shape;obtain⟨ia1,T0,rfl,_⟩:=eN;push_cast -dsimp;refine ah (z:=[.slice none 0 0,.slice none 0 0]) (by kernel_rfl) ?_;intro wd jI;have szd:=jI.size;push_cast -dsimp;refine aI (n:=2) (by kernel_rfl) jI.aL rfl (by simp) (by simp[Value.oneCell']) ?_;intro we mI;have Mo:=mI.size;have ke:Below wc.heap.size wc we:=jI.below.trans (mI.kept.below (by omega) (λ_ h=>by omega));have YR:Below wx.heap.size wx we:=kb.trans ((ng.mono (by omega)).trans (ke.mono (by omega)));have uL:Below w.heap.size w we:=bS.trans (YR.mono (by omega));have hXe:aN we wx.heap.size 129 _:=(Nn.below ng (by omega)).below ke (by omega)
   have hDe:aN we wc.heap.size 127 [.slice Vn d1.sets.length Vo,.slice ia1 d1.ins.length T0]:=mI.aL;have e2:aB we ⟨wx.heap.size,3,none⟩ 0 2=some [.slice x2 r.after.sets.length y2,.slice a2 r.after.ins.length k2]:=lE (n:=2) hXe 3 rfl rfl;push_cast -dsimp[e2];refine aA (XH r.after Hw.2.1 (by omega) (by omega) (λb=>X b\/Y b) _ we (λb h=>h.elim (λh=>by have:=hXw b h;omega) (λh=>by have:=hY b h;omega)) (hN.below uL) (aCO.below uL)) ?_;rintro r2 wf ⟨rZ,YM⟩;have szf:=YM.size;unfold PZ at rZ;rw[if_pos Ye.2]at rZ;obtain⟨d2,dv2,rfl,hL2,hd2⟩:=rZ;have aPK:=hd2;obtain⟨_,_,rfl,aPR,aPO⟩:=hd2;have eN:=aPR.shape;obtain⟨Ip,Ir,rfl,_⟩:=eN;have eN:=aPO.shape;obtain⟨ia2,T3,rfl,_⟩:=eN;push_cast -dsimp;refine ah (z:=[.slice none 0 0,.slice none 0 0]) (by kernel_rfl) ?_;intro wg mJ;have szg:=mJ.size;push_cast -dsimp;refine aI (n:=2) (by kernel_rfl) mJ.aL rfl (by simp) (by simp[Value.oneCell']) ?_;intro wh Ml;have szh:=Ml.size;have kh:Below wf.heap.size wf wh:=mJ.below.trans (Ml.kept.below (by omega) (λ_ h=>by omega));have TC:Below wx.heap.size wx wh:=YR.trans ((YM.mono (by omega)).trans (kh.mono (by omega)));have hXh:aN wh wx.heap.size 129 _:=(hXe.below YM (by omega)).below kh (by omega);have hDh:aN wh wc.heap.size 127 _:=(hDe.below YM (by omega)).below kh (by omega);have hFh:aN wh wf.heap.size 127 [.slice Ip d2.sets.length Ir,.slice ia2 d2.ins.length T3]:=Ml.aL;have aLw:cz (λb=>X b\/Y b) wh _ d1:=((aPI.below ke).below YM).below kh;have aLx:cz (λb=>X b\/Y b) wh _ d2:=aPK.below kh
   have q1:aB wh ⟨wc.heap.size,0,none⟩ 0 2=some [.slice Vn d1.sets.length Vo,.slice ia1 d1.ins.length T0]:=hDh.aB;push_cast -dsimp[q1];have hLP:gH r ⟨r.brk,d1,d2⟩:=⟨rfl,CR.of Ye.1,CR.of Ye.2,hL1,hL2⟩;refine aA (XU d1 hL1.cr _ _ wh aLw) ?_;rintro _ wi ⟨rfl,JN⟩;have szi:=JN.size;have aLs:=TC.trans (JN.mono (by omega));cases aPL:nu d1 with
   | true =>
    push_cast -dsimp;have xz:Below wx.heap.size wx wi:=aLs;have aRI:=xz.size;exact⟨⟨by omega,by omega⟩,⟨k+1,out,us,ov,rfl,by omega,hP.gone hx hLP (.inl aPL),hWx.below xz (by omega),eU.aH (Kept.aQ xz (X:=λ_=>False) (λk hk hl=>by omega)) (λ_ _ h=>h),uV,λi s h=>by
     obtain⟨u,h1,h2⟩:=Yn i s h;exact⟨u,h1,h2.below xz⟩,vh.below xz (by omega),bS.trans (xz.mono (by omega)),by omega⟩,by rw[h22];simp only[intOf];omega⟩
   | false =>
    have hFi:=hFh.below JN (by omega);have hDi:=hDh.below JN (by omega);have hXi:=hXh.below JN (by omega);have q2:aB wi ⟨wf.heap.size,0,none⟩ 0 2=some [.slice Ip d2.sets.length Ir,.slice ia2 d2.ins.length T3]:=hFi.aB;push_cast -dsimp[q2];refine aA (XU d2 hL2.cr _ _ wi (aLx.below JN)) ?_;rintro _ wj ⟨rfl,Sy⟩;have szj:=Sy.size;have TD:=aLs.trans (Sy.mono (by omega));cases aPM:nu d2 with
    | true =>
     push_cast -dsimp;have xz:Below wx.heap.size wx wj:=TD;have aRI:=xz.size;exact⟨⟨by omega,by omega⟩,⟨k+1,out,us,ov,rfl,by omega,hP.gone hx hLP (.inr aPM),hWx.below xz (by omega),eU.aH (Kept.aQ xz (X:=λ_=>False) (λk hk hl=>by omega)) (λ_ _ h=>h),uV,λi s h=>by
      obtain⟨u,h1,h2⟩:=Yn i s h;exact⟨u,h1,h2.below xz⟩,vh.below xz (by omega),bS.trans (xz.mono (by omega)),by omega⟩,by rw[h22];simp only[intOf];omega⟩
    | false =>
     have hFj:=hFi.below Sy (by omega);have hDj:=hDi.below Sy (by omega);have hXj:=hXi.below Sy (by omega);have hWj:=hWx.below TD (by omega);have hRj:=vh.below TD (by omega);have aLy:=(aLw.below JN).below Sy;have aLA:=(aLx.below JN).below Sy;have z1:wj.cell? ⟨w3.heap.size,0,none⟩=some ov:=hWj.cell rfl;have z2:wj.cell? ⟨wx.heap.size,0,none⟩=some (.bool r.brk):=hXj.cell rfl;have z3:aB wj ⟨wc.heap.size,0,none⟩ 0 2=some [.slice Vn d1.sets.length Vo,.slice ia1 d1.ins.length T0]:=hDj.aB;have z4:aB wj ⟨wf.heap.size,0,none⟩ 0 2=some [.slice Ip d2.sets.length Ir,.slice ia2 d2.ins.length T3]:=hFj.aB;have hos:=eU.slice;obtain⟨oa,oc,QZ⟩:=hos;rw[QZ]at z1;push_cast -dsimp[z1,z2,z3,z4];refine cF xl rfl rfl (by omega) ?_;intro wk hwk;have szk:=hwk.size;have rX:=eU.aH (Kept.aQ TD (X:=λ_=>False) (λk hk hl=>by omega)) (λ_ _ h=>h);rw[QZ]at rX;push_cast -dsimp;refine aP (base:=w5.heap.size) [⟨r.brk,⟨Vn,d1.sets.length,Vo⟩,⟨ia1,d1.ins.length,T0⟩,⟨Ip,d2.sets.length,Ir⟩,⟨ia2,d2.ins.length,T3⟩⟩] (enc:=gi) xl (rX.new hwk) (by rfl) (λj u hu=>by simpa[gi,SV.v] using hwk.cell hu) xm (by have:=hP.len;simp only[List.length_cons,List.length_nil];omega) (by omega) ?_;intro vl wl Vi hgl hnl;have aHF:=Vi.slice;obtain⟨la,lc,rfl⟩:=aHF;have vf:∀g,(Value.slice oa us.length oc).ownBlock=some g->w5.heap.size<=g/\g<wx.heap.size:=λg hg=>eU.block g (by rw[QZ];exact hg);have hXo:∀g,(Value.slice oa us.length oc).ownBlock=some g->X g:=λg hg=>by rw[hX,QZ];exact .inr (.inr hg)
     have kO:Kept (λj=>(Value.slice oa us.length oc).ownBlock=some j) wj wl:=(Kept.new hwk).trans (Kept.grown hgl (λ_ h=>h)) (λ_ _ h=>h);have szl:=kO.size;have hWl:=hWj.kept kO (λh=>by have:=vf _ h;omega);have hRl:=hRj.kept kO (λh=>by have:=vf _ h;omega);have hDl:=hDj.kept kO (λh=>by have:=vf _ h;omega);have hFl:=hFj.kept kO (λh=>by have:=vf _ h;omega);push_cast -dsimp;refine aC hWl (by simp) rfl ?_;intro wm hwm;have szm:wm.heap.size=wl.heap.size:=hwm.size;have hRm:=hRl.kept hwm.kept (by omega);have hDm:=hDl.kept hwm.kept (by omega);have hFm:=hFl.kept hwm.kept (by omega);have kX:Kept X wj wm:=(kO.weaken (Y:=X) (λg _ h=>hXo g h)).trans hwm.kept (λg _ h=>by rw[hX];exact .inr (.inl h));have aTf:=hL1.cr.one;have aTg:=hL2.cr.one;have hg:=ag (l:=d1.ins) (i:=0) (by omega);obtain⟨y1,hy1,_,_⟩:=hg;have hg:=ag (l:=d2.ins) (i:=0) (by omega);obtain⟨y2,hy2,_,_⟩:=hg;have aLz:=aLy;have aLB:=aLA;obtain⟨_,_,he,_,aQj⟩:=aLy;cases he;obtain⟨_,_,he,_,aQk⟩:=aLA;cases he;have hg:=aQj.get hy1;obtain⟨b1,o1,rfl,aQF,EX⟩:=hg;have hg:=aQk.get hy2;obtain⟨b2,o2,rfl,aQG,tJ⟩:=hg;have t1:wm.cell? ⟨wc.heap.size,1,none⟩=some (.slice (some ⟨b1,o1,none⟩) d1.ins.length T0):=hDm.cell rfl;have t2:wm.cell? ⟨wf.heap.size,1,none⟩=some (.slice (some ⟨b2,o2,none⟩) d2.ins.length T3):=hFm.cell rfl;have t3:wm.cell? ⟨b1,o1,none⟩=some (.int .i64 y1.op):=kX.cell (by have:=EX 0 _ rfl;simpa using this) (λh=>aQF (.inl h))
     have t4:wm.cell? ⟨b2,o2,none⟩=some (.int .i64 y2.op):=kX.cell (by have:=tJ 0 _ rfl;simpa using this) (λh=>aQG (.inl h));have aHX:uz d1=decide (y1.op=5):=by unfold uz;rw[hy1]
     have aHY:uz d2=decide (y2.op=5):=by unfold uz;rw[hy2]
     have conv:∀cs s,eL (λb=>X b\/Y b) wj cs s->eL (λb=>(b=w1.heap.size\/b=w3.heap.size\/(Value.slice la (us++[(⟨r.brk,⟨Vn,d1.sets.length,Vo⟩,⟨some ⟨b1,o1,none⟩,d1.ins.length,T0⟩,⟨Ip,d2.sets.length,Ir⟩,⟨some ⟨b2,o2,none⟩,d2.ins.length,T3⟩⟩:PV)]).length lc).ownBlock=some b)\/Y b) wm cs s:=λcs s h=>by
      refine(h.narrow (X':=λb=>(X b\/(Value.slice la (us++[(⟨r.brk,⟨Vn,d1.sets.length,Vo⟩,⟨some ⟨b1,o1,none⟩,d1.ins.length,T0⟩,⟨Ip,d2.sets.length,Ir⟩,⟨some ⟨b2,o2,none⟩,d2.ins.length,T3⟩⟩:PV)]).length lc).ownBlock=some b)\/Y b) (λb hb hh=>?_)).mono (λb kL aq=>kX.block b aq (λhh=>kL (.inl (.inl hh)))) (λb hh=>?_)
      ·rcases hh with (hh|hh)|hh
       ·exact .inl hh
       ·rcases hnl b hh with h1|h1
        ·exact .inl (hXo b h1)
        omega
       exact .inr hh
      rcases hh with (hh|hh|hh)|hh
      ·left;left;rw[hX];exact .inl hh
      ·left;left;rw[hX];exact .inr (.inl hh)
      ·exact .inl (.inr hh)
      exact .inr hh
     have hum:=uB (Pr:=λ_ u s=>eL (λb=>(b=w1.heap.size\/b=w3.heap.size\/(Value.slice la (us++[(⟨r.brk,⟨Vn,d1.sets.length,Vo⟩,⟨some ⟨b1,o1,none⟩,d1.ins.length,T0⟩,⟨Ip,d2.sets.length,Ir⟩,⟨some ⟨b2,o2,none⟩,d2.ins.length,T3⟩⟩:PV)]).length lc).ownBlock=some b)\/Y b) wm (gi u) s) uV (λi s h=>by
      obtain⟨u,h1,h2⟩:=huX i s h;exact⟨u,h1,conv _ _ (h2.below TD)⟩) (u:=⟨r.brk,⟨Vn,d1.sets.length,Vo⟩,⟨some ⟨b1,o1,none⟩,d1.ins.length,T0⟩,⟨Ip,d2.sets.length,Ir⟩,⟨some ⟨b2,o2,none⟩,d2.ins.length,T3⟩⟩) (x:=⟨r.brk,d1,d2⟩) (conv _ _ ⟨_,_,_,_,rfl,aLz,aLB⟩)
     have hom:=Vi.aH hwm.kept (λg hg h=>by have:=(Vi.block g hg).1;omega);have Yl:(us++[(⟨r.brk,⟨Vn,d1.sets.length,Vo⟩,⟨some ⟨b1,o1,none⟩,d1.ins.length,T0⟩,⟨Ip,d2.sets.length,Ir⟩,⟨some ⟨b2,o2,none⟩,d2.ins.length,T3⟩⟩:PV)]).length=(out++[(⟨r.brk,d1,d2⟩:bo)]).length:=by simp[uV]
     have hWm:=hwm.aL;have YP:Below w.heap.size w wm:=(bS.trans (TD.mono (by omega))).trans (kX.below (by omega) (λb h=>(hXw b h).1));push_cast -dsimp[t1,t2,t3,t4];refine⟨by omega,λg1=>⟨by omega,λg2=>?_,λg2=>?_⟩,λg1=>?_⟩
     ·have hPL:=hP.last hx hLP (by rw[aHX];exact decide_eq_true g1) (by rw[aHY];exact decide_eq_true g2);have qf:=hWm.aB;simp only[List.length_cons,List.length_nil,Nat.zero_add,Nat.reduceAdd,List.set_cons_zero,List.set_cons_succ]at qf;push_cast -dsimp[qf];refine aI (n:=2) (by kernel_rfl) hRm rfl (by simp) (by simp[Value.oneCell']) ?_;intro wq OF;have szq:=OF.size;have qc:aB wq ⟨w1.heap.size,0,none⟩ 0 2=some [.slice la (us++[(⟨r.brk,⟨Vn,d1.sets.length,Vo⟩,⟨some ⟨b1,o1,none⟩,d1.ins.length,T0⟩,⟨Ip,d2.sets.length,Ir⟩,⟨some ⟨b2,o2,none⟩,d2.ins.length,T3⟩⟩:PV)]).length lc,.bool p.els]:=OF.aL.aB;push_cast -dsimp[qc,if_true];have oY:=xD (R:=eL Y wq) (hom.aH OF.kept (λg hg h=>by have:=(hom.block g hg).1;omega)) Yl (λi s h=>by
       obtain⟨u,h1,h2⟩:=hum i s h;exact⟨u,h1,h2.mono (λb kL aq=>OF.kept.block b aq (λhh=>kL (.inl (.inl hh)))) (λ_ h=>.inr h)⟩)
      exact⟨⟨_,_,rfl,hPL,⟨_,rfl,pg.mono (X':=Y) (X:=Y) (oY.weaken (λb h=>by have:=hY b h;omega)) (λ_ _ _=>rfl) (λ_ h=>h)⟩⟩,YP.trans (OF.kept.below (by omega) (λ_ h=>by omega))⟩
     ·exact⟨⟨by omega,by omega⟩,⟨k+1,_,_,_,rfl,by omega,hP.more hx hLP (by rw[aHX,aHY];simp[g2]),hWm,hom,Yl,hum,hRm,YP,by omega⟩,by rw[h22];simp only[intOf];omega⟩
     exact⟨⟨by omega,by omega⟩,⟨k+1,_,_,_,rfl,by omega,hP.more hx hLP (by rw[aHX,aHY];simp[g1]),hWm,hom,Yl,hum,hRm,YP,by omega⟩,by rw[h22];simp only[intOf];omega⟩
  have EA:k=p.rules.length:=by omega
  have hPL:=hP.done EA;have hos:=eU.slice;obtain⟨oa,oc,rfl⟩:=hos;have hWm:=hWx;have hRm:=vh;have hom:=eU;have Yl:=uV;have hum:=Yn;have YP:=bS;have qf:=hWm.aB;simp only[List.length_cons,List.length_nil,Nat.zero_add,Nat.reduceAdd,List.set_cons_zero,List.set_cons_succ]at qf;push_cast -dsimp[qf];refine aI (n:=2) (by kernel_rfl) hRm rfl (by simp) (by simp[Value.oneCell']) ?_;intro wq OF;have szq:=OF.size;have qc:aB wq ⟨w1.heap.size,0,none⟩ 0 2=some [.slice oa us.length oc,.bool p.els]:=OF.aL.aB;push_cast -dsimp[qc,if_true];have oY:=xD (R:=eL Y wq) (hom.aH OF.kept (λg hg h=>by have:=(hom.block g hg).1;omega)) Yl (λi s h=>by
   obtain⟨u,h1,h2⟩:=hum i s h;exact⟨u,h1,h2.mono (λb kL aq=>OF.kept.block b aq (λhh=>kL (.inl (.inl hh)))) (λ_ h=>.inr h)⟩)
  exact⟨⟨_,_,rfl,hPL,⟨_,rfl,pg.mono (X':=Y) (X:=Y) (oY.weaken (λb h=>by have:=hY b h;omega)) (λ_ _ _=>rfl) (λ_ h=>h)⟩⟩,YP.trans (OF.kept.below (by omega) (λ_ h=>by omega))⟩
end
end Go.Proofs.YtemjejfpadnljaaGreatDoor
namespace Cae
section
theorem wH:∀(s cs:List UInt8) (x:UInt8),x∈s->cs.contains x=true->0<=Go.Lib.indexAny s cs:=by
 intro s cs x hx hc;induction s with
 | nil=>cases hx
 | cons b l ih =>
  unfold Go.Lib.indexAny;split
  ·decide
  rename_i hb;have hl:x∈l:=by
   rcases List.mem_cons.1 hx with e|h
   ·subst e;exact absurd hc hb
   exact h
  have:=ih hl;split
  ·rename_i he
   have:=beq_iff_eq.1 he;omega
  omega
end
section
def GC (az:List Int)(back:Bool)(i:Nat):List Int:=if back then (az.take i).reverse else az.drop i
def tp (c:aE)(S:Nat->Nat->Prop)(e:Nat):Nat->Nat->Prop
 | 0,m=>m=e
 | t+1,m=>c.ins[m]?=some ⟨2,((m+1:Nat):Int),(e:Int)⟩/\∃m',S (m+1) m'/\tp c S e t m'
section
variable (has:bB->Int->Prop) (c:aE) (back:Bool)
mutual
def ik:aG->Nat->Nat->Prop
 | .one k,a,b=>b=a+1/\∃(i:Nat) (s:List Rg),c.ins[a]?=some ⟨1,(i:Int),0⟩/\c.sets[i]?=some s/\∀p,fO s p=true↔has k p
 | .any,a,b=>b=a+1/\∃(i:Nat) (s:List Rg),c.ins[a]?=some ⟨1,(i:Int),0⟩/\c.sets[i]?=some s/\∀p,0<=p->p<=1114111->fO s p=true
 | .gh,a,b=>b=a+1/\c.ins[a]?=some ⟨4,0,0⟩
 | .cat l,a,b=>if back then oM l a b else lL l a b
 | .alt l,a,b=>mP l a b
 | .many x lo hi,a,b=>∃m,iterM (λa b=>ik x a b) lo.toNat a m/\if hi<0 then c.ins[m]?=some ⟨2,((m+1:Nat):Int),(b:Int)⟩/\∃e,ik x (m+1) e/\c.ins[e]?=some ⟨3,(m:Int),0⟩/\b=e+1 else tp c (λa b=>ik x a b) b (hi-lo).toNat m
def lL:List aG->Nat->Nat->Prop
 | [],a,b=>a=b
 | x::l,a,b=>∃m,ik x a m/\lL l m b
def oM:List aG->Nat->Nat->Prop
 | [],a,b=>a=b
 | x::l,a,b=>∃m,oM l a m/\ik x m b
def mP:List aG->Nat->Nat->Prop
 | [],a,b=>False
 | x::l,a,b=>(l=[]/\ik x a b)\/(l≠[]/\∃m,c.ins[a]?=some ⟨2,((a+1:Nat):Int),((m+1:Nat):Int)⟩/\ik x (a+1) m/\c.ins[m]?=some ⟨3,(b:Int),0⟩/\mP l (m+1) b)
end
end
section
variable {has:bB->Int->Prop} {c:aE} {back:Bool} {az:List Int}
theorem xI {i:Nat}(hi:i<=az.length):(fS az back i=none/\GC az back i=[])\/∃j p,fS az back i=some (j,p)/\GC az back i=p::GC az back j:=by
 unfold fS GC;cases back with
 | true =>
  simp only[if_true];by_cases h0:i=0
  ·subst h0;exact .inl ⟨by simp,by simp⟩
  rw[if_neg h0];obtain⟨k,rfl⟩:∃k,i=k+1:=⟨i-1,by omega⟩;have hk:k<az.length:=by omega
  refine .inr ⟨k,az[k],?_,?_⟩
  ·rw[show k+1-1=k by omega,List.getElem?_eq_getElem hk];rfl
  rw[List.take_succ_eq_append_getElem hk,List.reverse_append];rfl
 | false =>
  simp only[Bool.false_eq_true,if_false];by_cases h0:i<az.length
  ·exact .inr ⟨i+1,az[i],by rw[List.getElem?_eq_getElem h0];rfl,List.drop_eq_getElem_cons h0⟩
  exact .inl ⟨by rw[List.getElem?_eq_none (by omega)];rfl,List.drop_eq_nil_of_le (by omega)⟩
theorem rd_some {i j:Nat}{p:Int}(hi:i<=az.length)(h:fS az back i=some (j,p)):GC az back i=p::GC az back j:=by
 rcases xI (back:=back) hi with ⟨e1,_⟩|⟨k,q,e1,e2⟩
 ·rw[h]at e1;cases e1
 rw[h]at e1;cases e1;exact e2
theorem aAQ {i j:Nat}{p:Int}(h:fS az back i=some (j,p)):p∈az:=by
 unfold fS at h;split at h
 ·split at h
  ·cases h
  cases hp:az[i-1]? with
  | none=>rw[hp]at h;cases h
  | some q=>rw[hp]at h;cases h;exact List.mem_of_getElem? hp
 cases hp:az[i]? with
 | none=>rw[hp]at h;cases h
 | some q=>rw[hp]at h;cases h;exact List.mem_of_getElem? hp
theorem pI {R:Nat->Nat->Prop}:∀{m n i j:Nat},iterM R (m+n) i j↔∃k,iterM R m i k/\iterM R n k j
 | 0,n,i,j=>by rw[Nat.zero_add];exact⟨λh=>⟨i,rfl,h⟩,λ⟨k,h1,h2⟩=>by cases h1;exact h2⟩
 | m+1,n,i,j=>by
  rw[show m+1+n=(m+n)+1 by omega]
  constructor
  ·rintro⟨a,h1,h2⟩;obtain⟨k,h3,h4⟩:=pI.1 h2;exact⟨k,⟨a,h1,h3⟩,h4⟩
  rintro⟨k,⟨a,h1,h3⟩,h4⟩;exact⟨a,h1,pI.2 ⟨k,h3,h4⟩⟩
def Fw (c:aE)(az:List Int)(back:Bool)(S R:Nat->Nat->Prop):Prop:=∀a b i h,S a b->i<=az.length->dZ c h a (GC az back i)->∃j h',j<=az.length/\h'<=h/\R i j/\dZ c h' b (GC az back j)
def Bw (c:aE)(az:List Int)(back:Bool)(S R:Nat->Nat->Prop):Prop:=∀a b i j,S a b->i<=az.length->R i j->Acc c b (GC az back j)->Acc c a (GC az back i)
theorem FM {h a:Nat}{ps:List Int}{i:Int}(hx:c.ins[a]?=some ⟨1,i,0⟩)(hh:dZ c h a ps):∃h' p r,h'+1=h/\ps=p::r/\fO (c.sets.getD i.toNat []) p=true/\dZ c h' (a+1) r:=by
 cases h with
 | zero=>exact hh.elim
 | succ h =>
  rw[dZ,hx]at hh;dsimp only at hh;rw[if_neg (by decide),if_neg (by decide),if_neg (by decide),if_neg (by decide)]at hh;cases ps with
  | nil=>exact hh.elim
  | cons p r=>exact⟨h,p,r,rfl,rfl,hh.1,hh.2⟩
theorem uA {h a:Nat}{ps:List Int}{i j:Int}(hx:c.ins[a]?=some ⟨2,i,j⟩)(hh:dZ c h a ps):∃h',h'+1=h/\(dZ c h' i.toNat ps\/dZ c h' j.toNat ps):=by
 cases h with
 | zero=>exact hh.elim
 | succ h =>
  rw[dZ,hx]at hh;dsimp only at hh;rw[if_neg (by decide),if_pos rfl]at hh;exact⟨h,rfl,hh⟩
theorem FL {h a:Nat}{ps:List Int}{i:Int}(hx:c.ins[a]?=some ⟨3,i,0⟩)(hh:dZ c h a ps):∃h',h'+1=h/\dZ c h' i.toNat ps:=by
 cases h with
 | zero=>exact hh.elim
 | succ h =>
  rw[dZ,hx]at hh;dsimp only at hh;rw[if_neg (by decide),if_neg (by decide),if_pos rfl]at hh;exact⟨h,rfl,hh⟩
theorem Vx {h a:Nat}{ps:List Int}(hx:c.ins[a]?=some ⟨4,0,0⟩)(hh:dZ c h a ps):∃h',h'+1=h/\ps=[]/\dZ c h' (a+1) ps:=by
 cases h with
 | zero=>exact hh.elim
 | succ h =>
  rw[dZ,hx]at hh;dsimp only at hh;rw[if_neg (by decide),if_neg (by decide),if_neg (by decide),if_pos rfl]at hh;exact⟨h,rfl,hh.1,hh.2⟩
theorem Qb {S R:Nat->Nat->Prop}(hF:Fw c az back S R):∀n,Fw c az back (iterM S n) (iterM R n)
 | 0,a,b,i,h,hs,hi,hh=>by cases hs;exact⟨i,h,hi,Nat.le_refl _,rfl,hh⟩
 | n+1,a,b,i,h,⟨m,h1,h2⟩,hi,hh=>by
  obtain⟨j,h',hj,hle,hr,FY⟩:=hF a m i h h1 hi hh;obtain⟨k,Xv,hk,Kg,jh,vu⟩:=Qb hF n m b j h' h2 hj FY;exact⟨k,Xv,hk,by omega,⟨j,hr,jh⟩,vu⟩
theorem Qa {S R:Nat->Nat->Prop}(hle:∀i j,i<=az.length->R i j->j<=az.length)(hB:Bw c az back S R):∀n,Bw c az back (iterM S n) (iterM R n)
 | 0,a,b,i,j,hs,hi,hr,hh=>by cases hs;cases hr;exact hh
 | n+1,a,b,i,j,⟨m,h1,h2⟩,hi,⟨k,r1,r2⟩,hh=>hB a m i k h1 hi r1 (Qa hle hB n m b k j h2 (hle _ _ hi r1) r2 hh)
theorem aFv {S R:Nat->Nat->Prop}{e:Nat}(hF:Fw c az back S R):∀t m i h,tp c S e t m->i<=az.length->dZ c h m (GC az back i)->∃n j h',n<=t/\j<=az.length/\h'<=h/\iterM R n i j/\dZ c h' e (GC az back j)
 | 0,m,i,h,hs,hi,hh=>by cases hs;exact⟨0,i,h,Nat.le_refl _,hi,Nat.le_refl _,rfl,hh⟩
 | t+1,m,i,h,hs,hi,hh=>by
  obtain⟨hx,m',h1,h2⟩:=hs;obtain⟨h0,rfl,hq⟩:=uA hx hh;rw[Int.toNat_natCast,Int.toNat_natCast]at hq;rcases hq with hh|hh
  ·obtain⟨j,h',hj,hle,hr,FY⟩:=hF (m+1) m' i h0 h1 hi hh;obtain⟨n,k,Xv,hn,hk,Kg,jh,vu⟩:=aFv hF t m' j h' h2 hj FY;exact⟨n+1,k,Xv,by omega,hk,by omega,⟨j,hr,jh⟩,vu⟩
  exact⟨0,i,h0,by omega,hi,by omega,rfl,hh⟩
theorem aFu {S R:Nat->Nat->Prop}{e:Nat}(hle:∀i j,i<=az.length->R i j->j<=az.length)(hB:Bw c az back S R):∀t m i j n,tp c S e t m->i<=az.length->n<=t->iterM R n i j->Acc c e (GC az back j)->Acc c m (GC az back i)
 | 0,m,i,j,n,hs,hi,hn,hr,hh=>by
  obtain rfl:n=0:=by omega
  cases hs;cases hr;exact hh
 | t+1,m,i,j,n,hs,hi,hn,hr,hh=>by
  obtain⟨hx,m',h1,h2⟩:=hs;refine(fW hx rfl).2 ?_;simp only[Int.toNat_natCast];cases n with
  | zero=>cases hr;exact .inr hh
  | succ n =>
   obtain⟨k,r1,r2⟩:=hr;exact .inl (hB (m+1) m' i k h1 hi r1 (aFu hle hB t m' k j n h2 (hle _ _ hi r1) (by omega) r2 hh))
theorem aEn {S R:Nat->Nat->Prop}{m e b:Nat}(hF:Fw c az back S R)(hx:c.ins[m]?=some ⟨2,((m+1:Nat):Int),(b:Int)⟩)(hS:S (m+1) e)(hj:c.ins[e]?=some ⟨3,(m:Int),0⟩):∀h i,i<=az.length->dZ c h m (GC az back i)->∃n j h',j<=az.length/\h'<=h/\iterM R n i j/\dZ c h' b (GC az back j):=by
 intro h;induction h using Nat.strongRecOn with
 | ind h ih =>
  intro i hi hh;obtain⟨h0,rfl,hq⟩:=uA hx hh;rw[Int.toNat_natCast,Int.toNat_natCast]at hq;rcases hq with hh|hh
  ·obtain⟨j,h1,Vf,hle,hr,FY⟩:=hF (m+1) e i h0 hS hi hh;obtain⟨h2,rfl,vu⟩:=FL hj FY;rw[Int.toNat_natCast]at vu;obtain⟨n,k,h3,hk,Kg,jh,hh3⟩:=ih h2 (by omega) j Vf vu;exact⟨n+1,k,h3,hk,by omega,⟨j,hr,jh⟩,hh3⟩
  exact⟨0,i,h0,hi,by omega,rfl,hh⟩
theorem RS {S R:Nat->Nat->Prop}{m e b:Nat}(hle:∀i j,i<=az.length->R i j->j<=az.length)(hB:Bw c az back S R)(hx:c.ins[m]?=some ⟨2,((m+1:Nat):Int),(b:Int)⟩)(hS:S (m+1) e)(hj:c.ins[e]?=some ⟨3,(m:Int),0⟩):∀n i j,i<=az.length->iterM R n i j->Acc c b (GC az back j)->Acc c m (GC az back i)
 | 0,i,j,hi,hr,hh=>by
  cases hr;exact(fW hx rfl).2 (.inr (by simpa only[Int.toNat_natCast] using hh))
 | n+1,i,j,hi,⟨k,r1,r2⟩,hh=>by
  refine(fW hx rfl).2 (.inl ?_);simp only[Int.toNat_natCast];refine hB (m+1) e i k hS hi r1 ((gd hj rfl).2 ?_);simp only[Int.toNat_natCast];exact RS hle hB hx hS hj n k j (hle _ _ hi r1) r2 hh
theorem Bk {i:Nat}{s:List Rg}(h:c.sets[i]?=some s):c.sets.getD ((i:Int)).toNat []=s:=by
 rw[Int.toNat_natCast,List.getD_eq_getElem?_getD,h];rfl
mutual
theorem sF:∀(back:Bool) (x:aG),bD x->Fw c az back (ik has c back x) (fG has az back x)
 | back,.one k,_,a,b,i,h,hs,hi,hh=>by
  simp only[ik]at hs;obtain⟨rfl,q,s,hx,hq,hp⟩:=hs;obtain⟨h',p,r,rfl,e,h1,h2⟩:=FM hx hh;rw[Bk hq]at h1;rcases xI (back:=back) hi with ⟨_,e2⟩|⟨j,p',e1,e2⟩
  ·rw[e2]at e;cases e
  rw[e2]at e;cases e;exact⟨j,h',pV e1 hi,by omega,by simp only[fG];exact⟨_,e1,(hp _).1 h1⟩,h2⟩
 | back,.any,_,a,b,i,h,hs,hi,hh=>by
  simp only[ik]at hs;obtain⟨rfl,q,s,hx,hq,hp⟩:=hs;obtain⟨h',p,r,rfl,e,h1,h2⟩:=FM hx hh;rcases xI (back:=back) hi with ⟨_,e2⟩|⟨j,p',e1,e2⟩
  ·rw[e2]at e;cases e
  rw[e2]at e;cases e;exact⟨j,h',pV e1 hi,by omega,by simp only[fG];exact⟨_,e1⟩,h2⟩
 | back,.gh,_,a,b,i,h,hs,hi,hh=>by
  simp only[ik]at hs;obtain⟨rfl,hx⟩:=hs;obtain⟨h',rfl,e,h2⟩:=Vx hx hh;rcases xI (back:=back) hi with ⟨e1,e2⟩|⟨j,p',e1,e2⟩
  ·exact⟨i,h',hi,by omega,by simp only[fG];exact⟨trivial,e1⟩,h2⟩
  rw[e2]at e;cases e
 | back,.cat l,bI,a,b,i,h,hs,hi,hh=>by
  simp only[bD]at bI;simp only[ik]at hs;simp only[fG];cases back with
  | true=>exact RL l bI a b i h hs hi hh
  | false=>exact RO l bI a b i h hs hi hh
 | back,.alt l,bI,a,b,i,h,hs,hi,hh=>by
  simp only[bD]at bI;simp only[ik]at hs;simp only[fG];exact RI back l bI a b i h hs hi hh
 | back,.many x lo AS,bI,a,b,i,h,hs,hi,hh=>by
  simp only[bD]at bI;simp only[ik]at hs;simp only[xH];obtain⟨m,h1,h2⟩:=hs;obtain⟨j,h',hj,hle,hr,FY⟩:=Qb (sF back x bI.1) lo.toNat a m i h h1 hi hh;split at h2
  ·rename_i vw;obtain⟨hx,e,hS,Ht,rfl⟩:=h2;obtain⟨n,k,Xv,hk,Kg,jh,vu⟩:=aEn (sF back x bI.1) hx hS Ht h' j hj FY;exact⟨k,Xv,hk,by omega,⟨lo.toNat+n,by omega,.inl vw,pI.2 ⟨j,hr,jh⟩⟩,vu⟩
  rename_i vw;obtain⟨n,k,Xv,hn,hk,Kg,jh,vu⟩:=aFv (sF back x bI.1) (AS-lo).toNat m j h' h2 hj FY;exact⟨k,Xv,hk,by omega,⟨lo.toNat+n,by omega,.inr (by omega),pI.2 ⟨j,hr,jh⟩⟩,vu⟩
theorem RO:∀l:List aG,dE l->Fw c az false (lL has c false l) (oL has az false l)
 | [],_,a,b,i,h,hs,hi,hh=>by simp only[lL]at hs;subst hs;exact⟨i,h,hi,Nat.le_refl _,by simp only[oL],hh⟩
 | x::l,bI,a,b,i,h,hs,hi,hh=>by
  simp only[dE]at bI;simp only[lL]at hs;obtain⟨m,h1,h2⟩:=hs;obtain⟨j,h',hj,hle,hr,FY⟩:=sF false x bI.1 a m i h h1 hi hh;obtain⟨k,Xv,hk,Kg,jh,vu⟩:=RO l bI.2 m b j h' h2 hj FY;exact⟨k,Xv,hk,by omega,by simp only[oL];exact⟨j,hr,jh⟩,vu⟩
theorem RL:∀l:List aG,dE l->Fw c az true (oM has c true l) (tz has az true l)
 | [],_,a,b,i,h,hs,hi,hh=>by simp only[oM]at hs;subst hs;exact⟨i,h,hi,Nat.le_refl _,by simp only[tz],hh⟩
 | x::l,bI,a,b,i,h,hs,hi,hh=>by
  simp only[dE]at bI;simp only[oM]at hs;obtain⟨m,h1,h2⟩:=hs;obtain⟨j,h',hj,hle,hr,FY⟩:=RL l bI.2 a m i h h1 hi hh;obtain⟨k,Xv,hk,Kg,jh,vu⟩:=sF true x bI.1 m b j h' h2 hj FY;exact⟨k,Xv,hk,by omega,by simp only[tz];exact⟨j,hr,jh⟩,vu⟩
theorem RI:∀(back:Bool) (l:List aG),dE l->Fw c az back (mP has c back l) (xd has az back l)
 | _,[],_,a,b,i,h,hs,hi,hh=>by simp only[mP]at hs
 | back,x::l,bI,a,b,i,h,hs,hi,hh=>by
  simp only[dE]at bI;simp only[mP]at hs;simp only[xd];rcases hs with ⟨rfl,hs⟩|⟨_,m,hx,h1,hj,h2⟩
  ·obtain⟨j,h',hj,hle,hr,FY⟩:=sF back x bI.1 a b i h hs hi hh;exact⟨j,h',hj,hle,.inl hr,FY⟩
  obtain⟨h0,rfl,hq⟩:=uA hx hh;rw[Int.toNat_natCast,Int.toNat_natCast]at hq;rcases hq with hh|hh
  ·obtain⟨j,h',Vf,hle,hr,FY⟩:=sF back x bI.1 (a+1) m i h0 h1 hi hh;obtain⟨h3,rfl,hh3⟩:=FL hj FY;rw[Int.toNat_natCast]at hh3;exact⟨j,h3,Vf,by omega,.inl hr,hh3⟩
  obtain⟨j,h',Vf,hle,hr,FY⟩:=RI back l bI.2 (m+1) b i h0 h2 hi hh;exact⟨j,h',Vf,by omega,.inr hr,FY⟩
end
mutual
theorem sE (x8:∀p∈az,0<=p/\p<=1114111):∀(back:Bool) (x:aG),bD x->Bw c az back (ik has c back x) (fG has az back x)
 | back,.one k,_,a,b,i,j,hs,hi,hr,hh=>by
  simp only[ik]at hs;simp only[fG]at hr;obtain⟨rfl,q,s,hx,hq,hp⟩:=hs;obtain⟨p,e1,h1⟩:=hr;refine(iH hx ⟨by simp,by simp,by simp,by simp⟩).2 ⟨p,_,rd_some hi e1,?_,hh⟩;dsimp only;rw[Bk hq];exact(hp p).2 h1
 | back,.any,_,a,b,i,j,hs,hi,hr,hh=>by
  simp only[ik]at hs;simp only[fG]at hr;obtain⟨rfl,q,s,hx,hq,hp⟩:=hs;obtain⟨p,e1⟩:=hr;refine(iH hx ⟨by simp,by simp,by simp,by simp⟩).2 ⟨p,_,rd_some hi e1,?_,hh⟩;dsimp only;rw[Bk hq]
  have:=x8 p (aAQ e1);exact hp p this.1 this.2
 | back,.gh,_,a,b,i,j,hs,hi,hr,hh=>by
  simp only[ik]at hs;simp only[fG]at hr;obtain⟨rfl,hx⟩:=hs;obtain⟨rfl,e1⟩:=hr;rcases xI (back:=back) hi with ⟨_,e2⟩|⟨j,p',e3,e2⟩
  ·exact(nn hx rfl).2 ⟨e2,hh⟩
  rw[e1]at e3;cases e3
 | back,.cat l,bI,a,b,i,j,hs,hi,hr,hh=>by
  simp only[bD]at bI;simp only[ik]at hs;simp only[fG]at hr;cases back with
  | true=>exact RJ x8 l bI a b i j hs hi hr hh
  | false=>exact RN x8 l bI a b i j hs hi hr hh
 | back,.alt l,bI,a,b,i,j,hs,hi,hr,hh=>by
  simp only[bD]at bI;simp only[ik]at hs;simp only[fG]at hr;exact RH x8 back l bI a b i j hs hi hr hh
 | back,.many x lo AS,bI,a,b,i,j,hs,hi,hr,hh=>by
  simp only[bD]at bI;simp only[ik]at hs;simp only[xH]at hr;obtain⟨m,h1,h2⟩:=hs;obtain⟨n,hn1,hn2,hr⟩:=hr;have hle:∀i j,i<=az.length->fG has az back x i j->j<=az.length:=λi j=>sB x;rw[show n=lo.toNat+(n-lo.toNat) by omega]at hr
  obtain⟨k,r1,r2⟩:=pI.1 hr;have hk:k<=az.length:=wL hle hi r1;refine Qa hle (sE x8 back x bI.1) lo.toNat a m i k h1 hi r1 ?_;split at h2
  ·obtain⟨hx,e,hS,Ht,rfl⟩:=h2;exact RS hle (sE x8 back x bI.1) hx hS Ht _ k j hk r2 hh
  exact aFu hle (sE x8 back x bI.1) _ m k j _ h2 hk (by omega) r2 hh
theorem RN (x8:∀p∈az,0<=p/\p<=1114111):∀l:List aG,dE l->Bw c az false (lL has c false l) (oL has az false l)
 | [],_,a,b,i,j,hs,hi,hr,hh=>by simp only[lL]at hs;simp only[oL]at hr;subst hs;subst hr;exact hh
 | x::l,bI,a,b,i,j,hs,hi,hr,hh=>by
  simp only[dE]at bI;simp only[lL]at hs;simp only[oL]at hr;obtain⟨m,h1,h2⟩:=hs;obtain⟨k,r1,r2⟩:=hr;exact sE x8 false x bI.1 a m i k h1 hi r1 (RN x8 l bI.2 m b k j h2 (sB x hi r1) r2 hh)
theorem RJ (x8:∀p∈az,0<=p/\p<=1114111):∀l:List aG,dE l->Bw c az true (oM has c true l) (tz has az true l)
 | [],_,a,b,i,j,hs,hi,hr,hh=>by simp only[oM]at hs;simp only[tz]at hr;subst hs;subst hr;exact hh
 | x::l,bI,a,b,i,j,hs,hi,hr,hh=>by
  simp only[dE]at bI;simp only[oM]at hs;simp only[tz]at hr;obtain⟨m,h1,h2⟩:=hs;obtain⟨k,r1,r2⟩:=hr;exact RJ x8 l bI.2 a m i k h1 hi r1 (sE x8 true x bI.1 m b k j h2 (Am l hi r1) r2 hh)
theorem RH (x8:∀p∈az,0<=p/\p<=1114111):∀(back:Bool) (l:List aG),dE l->Bw c az back (mP has c back l) (xd has az back l)
 | _,[],_,a,b,i,j,hs,hi,hr,hh=>by simp only[mP]at hs
 | back,x::l,bI,a,b,i,j,hs,hi,hr,hh=>by
  simp only[dE]at bI;simp only[mP]at hs;simp only[xd]at hr;rcases hs with ⟨rfl,hs⟩|⟨_,m,hx,h1,hj,h2⟩
  ·rcases hr with hr|hr
   ·exact sE x8 back x bI.1 a b i j hs hi hr hh
   simp only[xd]at hr
  refine(fW hx rfl).2 ?_;simp only[Int.toNat_natCast];rcases hr with hr|hr
  ·exact .inl (sE x8 back x bI.1 (a+1) m i j h1 hi hr ((gd hj rfl).2 (by simpa only[Int.toNat_natCast] using hh)))
  exact .inr (RH x8 back l bI.2 (m+1) b i j h2 hi hr hh)
end
theorem Oo (x8:∀p∈az,0<=p/\p<=1114111){x:aG}{b i:Nat}(bI:bD x)(hs:ik has c back x 0 b)(hy:c.ins[b]?=some ⟨5,0,0⟩)(hi:i<=az.length):Acc c 0 (GC az back i)↔ma has az x i back:=by
 constructor
 ·rintro⟨h,hh⟩;obtain⟨j,h',_,_,hr,_⟩:=sF back x bI 0 b i h hs hi hh;exact⟨j,hr⟩
 rintro⟨j,hr⟩;exact sE x8 back x bI 0 b i j hs hi hr (mR hy rfl)
end
mutual
def bO:aG->Nat
 | .one _=>1
 | .any=>1
 | .gh=>1
 | .cat l=>cD l
 | .alt l=>fZ l
 | .many x lo hi=>lo.toNat*bO x+if hi<0 then bO x+2 else (hi-lo).toNat*(bO x+1)
def cD:List aG->Nat
 | []=>0
 | x::l=>bO x+cD l
def fZ:List aG->Nat
 | []=>0
 | x::l=>if l=[] then bO x else bO x+2+fZ l
end
section
variable {has:bB->Int->Prop} {c c':aE} {back:Bool}
theorem re {S:Nat->Nat->Prop}{k:Nat}(h:∀a b,S a b->b=a+k):∀n a b,iterM S n a b->b=a+n*k
 | 0,a,b,e=>by cases e;simp
 | n+1,a,b,⟨m,h1,h2⟩=>by
  have:=h a m h1
  have:=re h n m b h2;rw[Nat.succ_mul];omega
theorem yC {S:Nat->Nat->Prop}{k e:Nat}(h:∀a b,S a b->b=a+k):∀t m,tp c S e t m->e=m+t*(k+1)
 | 0,m,e=>by cases e;simp
 | t+1,m,⟨_,m',h1,h2⟩=>by
  have:=h _ m' h1
  have:=yC h t m' h2;rw[Nat.succ_mul];omega
mutual
theorem fj:∀(x:aG) (a b:Nat),ik has c back x a b->b=a+bO x
 | .one k,a,b,h=>by simp only[ik]at h;exact h.1
 | .any,a,b,h=>by simp only[ik]at h;exact h.1
 | .gh,a,b,h=>by simp only[ik]at h;exact h.1
 | .cat l,a,b,h=>by
  simp only[ik]at h;split at h
  ·exact DV l a b h
  exact xO l a b h
 | .alt l,a,b,h=>by simp only[ik]at h;exact xN l a b h
 | .many x lo hi,a,b,h=>by
  simp only[ik]at h;obtain⟨m,h1,h2⟩:=h;have e1:=re (λa b=>fj x a b) _ _ _ h1;simp only[bO];split at h2
  ·rename_i hn;obtain⟨_,e,h3,_,rfl⟩:=h2;have e2:=fj x _ _ h3;rw[if_pos hn];omega
  rename_i hn;have e2:=yC (λa b=>fj x a b) _ _ h2;rw[if_neg hn];omega
theorem xO:∀(l:List aG) (a b:Nat),lL has c back l a b->b=a+cD l
 | [],a,b,h=>by simp only[lL]at h;simp only[cD];omega
 | x::l,a,b,h=>by
  simp only[lL]at h;obtain⟨m,h1,h2⟩:=h;have e1:=fj x _ _ h1;have e2:=xO l _ _ h2;simp only[cD];omega
theorem DV:∀(l:List aG) (a b:Nat),oM has c back l a b->b=a+cD l
 | [],a,b,h=>by simp only[oM]at h;simp only[cD];omega
 | x::l,a,b,h=>by
  simp only[oM]at h;obtain⟨m,h1,h2⟩:=h;have e1:=DV l _ _ h1;have e2:=fj x _ _ h2;simp only[cD];omega
theorem xN:∀(l:List aG) (a b:Nat),mP has c back l a b->b=a+fZ l
 | [],a,b,h=>by simp only[mP]at h
 | x::l,a,b,h=>by
  simp only[mP]at h;simp only[fZ];rcases h with ⟨rfl,h⟩|⟨cf,m,_,h1,_,h2⟩
  ·rw[if_pos rfl];exact fj x _ _ h
  have e1:=fj x _ _ h1;have e2:=xN l _ _ h2;rw[if_neg cf];omega
end
def eZ (c c':aE)(a b:Nat):Prop:=(∀k,a<=k->k<b->c'.ins[k]?=c.ins[k]?)/\∀(i:Nat) (s:List Rg),c.sets[i]?=some s->c'.sets[i]?=some s
theorem eZ.sub {a b a' b':Nat}(h:eZ c c' a b)(h1:a<=a')(h2:b'<=b):eZ c c' a' b':=⟨λk h3 h4=>h.1 k (by omega) (by omega),h.2⟩
theorem mj {S S':Nat->Nat->Prop}{k A B:Nat}(hl:∀a b,S a b->b=a+k)(h:∀a b,A<=a->b<=B->S a b->S' a b):∀n a b,A<=a->b<=B->iterM S n a b->iterM S' n a b
 | 0,a,b,_,_,e=>e
 | n+1,a,b,ha,hb,⟨m,h1,h2⟩=>by
  have e1:=hl a m h1;have e2:=re hl n m b h2;exact⟨m,h a m ha (by omega) h1,mj hl h n m b (by omega) hb h2⟩
theorem QT {S S':Nat->Nat->Prop}{k A B:Nat}(hl:∀a b,S a b->b=a+k)(h:∀a b,A<=a->b<=B->S a b->S' a b)(hc:∀k,A<=k->k<B->c'.ins[k]?=c.ins[k]?):∀t m,A<=m->tp c S B t m->tp c' S' B t m
 | 0,m,_,e=>e
 | t+1,m,hm,⟨hx,m',h1,h2⟩=>by
  have e1:=hl _ m' h1;have e2:=yC hl t m' h2;exact⟨by rw[hc m hm (by omega)];exact hx,m',h _ _ (by omega) (by omega) h1,QT hl h hc t m' (by omega) h2⟩
mutual
theorem dp:∀(x:aG) (a b:Nat),eZ c c' a b->ik has c back x a b->ik has c' back x a b
 | .one k,a,b,hs,h=>by
  simp only[ik]at h ⊢
  obtain⟨rfl,i,s,h1,h2,h3⟩:=h;exact⟨rfl,i,s,by rw[hs.1 a (by omega) (by omega)];exact h1,hs.2 i s h2,h3⟩
 | .any,a,b,hs,h=>by
  simp only[ik]at h ⊢
  obtain⟨rfl,i,s,h1,h2,h3⟩:=h;exact⟨rfl,i,s,by rw[hs.1 a (by omega) (by omega)];exact h1,hs.2 i s h2,h3⟩
 | .gh,a,b,hs,h=>by
  simp only[ik]at h ⊢
  obtain⟨rfl,h1⟩:=h;exact⟨rfl,by rw[hs.1 a (by omega) (by omega)];exact h1⟩
 | .cat l,a,b,hs,h=>by
  simp only[ik]at h ⊢
  by_cases hb:back=true
  ·rw[if_pos hb]at h ⊢;exact yS l a b hs h
  rw[if_neg hb]at h ⊢;exact yT l a b hs h
 | .alt l,a,b,hs,h=>by simp only[ik]at h ⊢;exact GM l a b hs h
 | .many x lo hi,a,b,hs,h=>by
  simp only[ik]at h ⊢
  obtain⟨m,h1,h2⟩:=h;have hl:=λa b=>fj (has:=has) (c:=c) (back:=back) x a b;have e1:=re hl _ _ _ h1;split at h2
  ·rename_i hn;obtain⟨hx,e,h3,h4,rfl⟩:=h2;have e2:=hl _ _ h3;refine⟨m,mj (A:=a) (B:=e+1) hl (λp q hp hq=>dp x p q (hs.sub hp hq)) _ _ _ (Nat.le_refl _) (by omega) h1,?_⟩;rw[if_pos hn];exact⟨by rw[hs.1 m (by omega) (by omega)];exact hx,e,dp x _ _ (hs.sub (by omega) (by omega)) h3,by rw[hs.1 e (by omega) (by omega)];exact h4,rfl⟩
  rename_i hn;have e2:=yC hl _ _ h2;refine⟨m,mj (A:=a) (B:=b) hl (λp q hp hq=>dp x p q (hs.sub hp hq)) _ _ _ (Nat.le_refl _) (by omega) h1,?_⟩;rw[if_neg hn];exact QT (A:=m) hl (λp q hp hq=>dp x p q (hs.sub (by omega) hq)) (λk h3 h4=>hs.1 k (by omega) h4) _ _ (Nat.le_refl _) h2
theorem yT:∀(l:List aG) (a b:Nat),eZ c c' a b->lL has c back l a b->lL has c' back l a b
 | [],a,b,hs,h=>by simp only[lL]at h ⊢;exact h
 | x::l,a,b,hs,h=>by
  simp only[lL]at h ⊢
  obtain⟨m,h1,h2⟩:=h;have e1:=fj x _ _ h1;have e2:=xO l _ _ h2;exact⟨m,dp x _ _ (hs.sub (by omega) (by omega)) h1,yT l _ _ (hs.sub (by omega) (by omega)) h2⟩
theorem yS:∀(l:List aG) (a b:Nat),eZ c c' a b->oM has c back l a b->oM has c' back l a b
 | [],a,b,hs,h=>by simp only[oM]at h ⊢;exact h
 | x::l,a,b,hs,h=>by
  simp only[oM]at h ⊢
  obtain⟨m,h1,h2⟩:=h;have e1:=DV l _ _ h1;have e2:=fj x _ _ h2;exact⟨m,yS l _ _ (hs.sub (by omega) (by omega)) h1,dp x _ _ (hs.sub (by omega) (by omega)) h2⟩
theorem GM:∀(l:List aG) (a b:Nat),eZ c c' a b->mP has c back l a b->mP has c' back l a b
 | [],a,b,hs,h=>by simp only[mP]at h
 | x::l,a,b,hs,h=>by
  simp only[mP]at h ⊢
  rcases h with ⟨rfl,h⟩|⟨cf,m,hx,h1,hj,h2⟩
  ·exact .inl ⟨rfl,dp x _ _ hs h⟩
  have e1:=fj x _ _ h1;have e2:=xN l _ _ h2;exact .inr ⟨cf,m,by rw[hs.1 a (by omega) (by omega)];exact hx,dp x _ _ (hs.sub (by omega) (by omega)) h1,by rw[hs.1 m (by omega) (by omega)];exact hj,GM l _ _ (hs.sub (by omega) (by omega)) h2⟩
end
def eA (c:aE)(a b n:Nat):Prop:=∀k,a<=k->k<b->∃x,c.ins[k]?=some x/\bT x c.sets.length n=true
theorem eA.join {a b d n:Nat}(h1:eA c a b n)(h2:eA c b d n):eA c a d n:=λk h3 h4=>by
 by_cases h:k<b
 ·exact h1 k h3 h
 exact h2 k (by omega) h4
theorem eA.one {a n:Nat}{x:I3}(h:c.ins[a]?=some x)(hr:bT x c.sets.length n=true):eA c a (a+1) n:=λk h1 h2=>by
 obtain rfl:k=a:=by omega
 exact⟨x,h,hr⟩
theorem sC {a b s n:Nat}(h1:a<n)(h2:b<n):bT ⟨2,(a:Int),(b:Int)⟩ s n=true:=by
 unfold bT;rw[if_neg (by simp),if_pos rfl,decide_eq_true_iff];dsimp only;omega
theorem DM {a s n:Nat}(h1:a<n):bT ⟨3,(a:Int),0⟩ s n=true:=by
 unfold bT;rw[if_neg (by simp),if_neg (by simp),if_pos rfl,decide_eq_true_iff];dsimp only;omega
theorem DN {a s n:Nat}(h1:a<s):bT ⟨1,(a:Int),0⟩ s n=true:=by
 unfold bT;rw[if_pos rfl,decide_eq_true_iff];dsimp only;omega
theorem Uc {s n:Int}:bT ⟨4,0,0⟩ s n=true:=by
 unfold bT;rw[if_neg (by decide),if_neg (by decide),if_neg (by decide),if_pos (by decide)];rfl
theorem Ud {s n:Int}:bT ⟨5,0,0⟩ s n=true:=by
 unfold bT;rw[if_neg (by decide),if_neg (by decide),if_neg (by decide),if_pos (by decide)];rfl
theorem uZ {S:Nat->Nat->Prop}{k n:Nat}(hl:∀a b,S a b->b=a+k)(h:∀a b,b<n->S a b->eA c a b n):∀t a b,b<n->iterM S t a b->eA c a b n
 | 0,a,b,_,e=>by cases e;intro k h1 h2;omega
 | t+1,a,b,hb,⟨m,h1,h2⟩=>by
  have e2:=re hl t m b h2;exact(h a m (by omega) h1).join (uZ hl h t m b hb h2)
theorem K9 {S:Nat->Nat->Prop}{k e n:Nat}(hl:∀a b,S a b->b=a+k)(h:∀a b,b<n->S a b->eA c a b n)(he:e<n):∀t m,tp c S e t m->eA c m e n
 | 0,m,e=>by cases e;intro k h1 h2;omega
 | t+1,m,⟨hx,m',h1,h2⟩=>by
  have e1:=hl _ m' h1;have e2:=yC hl t m' h2;exact(eA.one hx (sC (by omega) he)).join ((h _ m' (by omega) h1).join (K9 hl h he t m' h2))
mutual
theorem ig:∀(x:aG) (a b n:Nat),b<n->ik has c back x a b->eA c a b n
 | .one k,a,b,n,hn,h=>by
  simp only[ik]at h;obtain⟨rfl,i,s,h1,h2,h3⟩:=h;exact eA.one h1 (DN (List.getElem?_eq_some_iff.1 h2).1)
 | .any,a,b,n,hn,h=>by
  simp only[ik]at h;obtain⟨rfl,i,s,h1,h2,h3⟩:=h;exact eA.one h1 (DN (List.getElem?_eq_some_iff.1 h2).1)
 | .gh,a,b,n,hn,h=>by
  simp only[ik]at h;obtain⟨rfl,h1⟩:=h;exact eA.one h1 Uc
 | .cat l,a,b,n,hn,h=>by
  simp only[ik]at h;split at h
  ·exact DW l a b n hn h
  exact DX l a b n hn h
 | .alt l,a,b,n,hn,h=>by simp only[ik]at h;exact DU l a b n hn h
 | .many x lo hi,a,b,n,hn,h=>by
  simp only[ik]at h;obtain⟨m,h1,h2⟩:=h;have hl:=λa b=>fj (has:=has) (c:=c) (back:=back) x a b;split at h2
  ·obtain⟨hx,e,h3,h4,rfl⟩:=h2;have e2:=hl _ _ h3;exact(uZ hl (λp q hq=>ig x p q n hq) _ _ _ (by omega) h1).join ((eA.one hx (sC (by omega) (by omega))).join ((ig x _ _ n (by omega) h3).join (eA.one h4 (DM (by omega)))))
  have e2:=yC hl _ _ h2;exact(uZ hl (λp q hq=>ig x p q n hq) _ _ _ (by omega) h1).join (K9 hl (λp q hq=>ig x p q n hq) hn _ _ h2)
theorem DX:∀(l:List aG) (a b n:Nat),b<n->lL has c back l a b->eA c a b n
 | [],a,b,n,hn,h=>by simp only[lL]at h;subst h;intro k h1 h2;omega
 | x::l,a,b,n,hn,h=>by
  simp only[lL]at h;obtain⟨m,h1,h2⟩:=h;have e2:=xO l _ _ h2;exact(ig x _ _ n (by omega) h1).join (DX l _ _ n hn h2)
theorem DW:∀(l:List aG) (a b n:Nat),b<n->oM has c back l a b->eA c a b n
 | [],a,b,n,hn,h=>by simp only[oM]at h;subst h;intro k h1 h2;omega
 | x::l,a,b,n,hn,h=>by
  simp only[oM]at h;obtain⟨m,h1,h2⟩:=h;have e2:=fj x _ _ h2;exact(DW l _ _ n (by omega) h1).join (ig x _ _ n hn h2)
theorem DU:∀(l:List aG) (a b n:Nat),b<n->mP has c back l a b->eA c a b n
 | [],a,b,n,hn,h=>by simp only[mP]at h
 | x::l,a,b,n,hn,h=>by
  simp only[mP]at h;rcases h with ⟨rfl,h⟩|⟨cf,m,hx,h1,hj,h2⟩
  ·exact ig x _ _ n hn h
  have e1:=fj x _ _ h1;have e2:=xN l _ _ h2;exact(eA.one hx (sC (by omega) (by omega))).join ((ig x _ _ n (by omega) h1).join ((eA.one hj (DM hn)).join (DU l _ _ n hn h2)))
end
end
mutual
def dD:aG->Prop
 | .one _=>True
 | .any=>True
 | .gh=>True
 | .cat l=>gV l
 | .alt l=>l≠[]/\gV l
 | .many x _ _=>dD x
def gV:List aG->Prop
 | []=>True
 | x::l=>dD x/\gV l
end
theorem rz:∀{l:List aG} {x:aG},gV l->dD x->gV (l++[x])
 | [],x,_,h=>by simp only[List.nil_append,gV];exact⟨h,trivial⟩
 | y::l,x,hl,h=>by
  simp only[gV,List.cons_append]at hl ⊢
  exact⟨hl.1,rz hl.2 h⟩
theorem wZ (d:Nat):∀(n c:Nat) (x:aG),dD x->Iv dD (bl d n c x)
 | 0,_,_,_=>Iv.fail
 | n+1,c,x,hx=>Iv.pb Ff λr hr=>by
   cases r with
   | none=>exact Iv.pr hx
   | some q =>
    refine Iv.ite (λ_=>Iv.fail) λ_=>wZ d n (c+1) _ ?_;simp only[dD];exact hx
theorem UE {d:Nat}{unit:Pa aG}(h:Iv dD unit):Iv dD (aZ d unit):=Iv.pb h λx hx=>wZ d _ _ _ hx
theorem Co {again:Pa aG}(h:Iv dD again):∀(n:Nat) (a:List aG),gV a->Iv gV (bN again n a)
 | 0,_,_=>Iv.fail
 | n+1,a,ha=>Iv.bE (Iv.pb h λx hx=>Co h n _ (rz ha hx)) (Iv.pr ha)
theorem aAu {l:List aG}(h:gV l):dD (rowOf l):=by
 match l with
 | []=>simp only[rowOf,dD];exact h
 | [x]=>simp only[gV]at h;exact h.1
 | x::y::l=>simp only[rowOf,dD];exact h
theorem WC {l:List aG}(h:l≠[]/\gV l):dD (jj l):=by
 match l with
 | []=>exact absurd rfl h.1
 | [x]=>have h:=h.2;simp only[gV]at h;exact h.1
 | x::y::l=>simp only[jj,dD];exact h
theorem aDS {again:Pa aG}(h:Iv dD again):Iv dD (iw again):=Iv.pb (Co h _ _ (by simp only[gV])) λps uR=>Iv.pr (aAu uR)
theorem Cn {row:Pa aG}(h:Iv dD row):∀(n:Nat) (a:List aG),a≠[]/\gV a->Iv (λa=>a≠[]/\gV a) (fB row n a)
 | 0,_,_=>Iv.fail
 | n+1,a,ha=>Iv.bE (Iv.pb Iv.pop λ_ _=>Iv.pb h λx hx=>Cn h n _ ⟨by simp,rz ha.2 hx⟩) (Iv.pr ha)
theorem aDQ {row:Pa aG}(h:Iv dD row):Iv dD (ND row):=Iv.pb h λx hx=>Iv.pb (Cn h _ _ ⟨by simp,by simp only[gV];exact⟨hx,trivial⟩⟩) λps uR=>Iv.pr (WC uR)
theorem Qr {d:Nat}{unit:Pa aG}(h:Iv dD unit):Iv dD (DD d unit):=Iv.ite (λ_=>Iv.fail) λ_=>aDQ (aDS (UE h))
theorem Qt:∀d,Iv dD (ax d)
 | 0=>Iv.fail
 | d+1=>Iv.bE (Iv.pb Iv.pop λ_ _=>Iv.pr (by simp only[dD])) (Iv.bE (Iv.pb Iv.pop λ_ _=>Iv.pr (by simp only[dD]))
   (Iv.bE (Iv.pb Iv.pop λ_ _=>Iv.pb (Qr (Qt d)) λx hx=>Iv.pb (gG _) λ_ _=>Iv.pr hx)
    (Iv.bE (Iv.pb (CP (d+1)) λk hk=>Iv.pr (by simp only[dD])) Iv.fail)))
theorem Z5 (d:Nat):Iv dD (ry d):=Qr (Qt d)
theorem aDT:Iv (λr=>dD r.before/\dD r.after) mM:=Iv.pb Iv.dr λt _=>Iv.pb Ah λb _=>Iv.pb (Z5 9) λx hx=>Iv.pb (gG _) λ_ _=>Iv.pb (Z5 9) λy hy=>Iv.pb (gG _) λ_ _=>Iv.pr ⟨hx,hy⟩
theorem zQ:∀(n:Nat) (acc:List cQ),(∀r∈acc,dD r.before/\dD r.after)->Iv (λl=>∀r∈l,dD r.before/\dD r.after) (b8 n acc)
 | 0,_,_=>Iv.fail
 | n+1,acc,ha=>Iv.bE (Iv.ite (λ_=>Iv.fail) λh=>Iv.pb aDT λr hr=>zQ n _ (λx hx=>by
   rcases List.mem_append.1 hx with hx|hx
   ·exact ha x hx
   rw[List.mem_singleton.1 hx];exact hr)) (Iv.pr ha)
theorem aDR:Iv (λf=>∀r∈f.rules,dD r.before/\dD r.after) j4:=Iv.pb (qF _ _ ⟨by simp,by simp⟩) λcs il=>Iv.pb (zQ _ _ (by simp)) λrs iW =>
 Iv.pb (I:=Tv) (λl x l' hl e=>⟨trivial,(show Iv Tv oy from Iv.bE (Iv.pb Iv.pop λ_ _=>Iv.pb Ah λ_ _=>Iv.pb (gG _) λ_ _=>Iv.pr trivial) (Iv.pr trivial)) l x l' hl e |>.2⟩) λb _=>Iv.pr iW
section
variable (has:bB->Int->Prop) (c:aE) (back:Bool)
def mu:List aG->Nat->List Nat->Nat->Prop
 | [],a,js,b=>js=[]/\a=b
 | x::l,a,js,b=>∃j js',js=j::js'/\c.ins[a]?=some ⟨2,((a+1:Nat):Int),((j+1:Nat):Int)⟩/\ik has c back x (a+1) j/\c.ins[j]?=some ⟨3,0,0⟩/\mu l (j+1) js' b
end
section
variable {has:bB->Int->Prop} {c c':aE} {back:Bool}
theorem Lr:∀(l m:List aG) (a b d:Nat) (js ks:List Nat),mu has c back l a js b->mu has c back m b ks d->mu has c back (l++m) a (js++ks) d
 | [],m,a,b,d,js,ks,h1,h2=>by
  simp only[mu]at h1;obtain⟨rfl,rfl⟩:=h1;exact h2
 | x::l,m,a,b,d,js,ks,h1,h2=>by
  simp only[mu]at h1;obtain⟨j,js',rfl,h3,h4,h5,h6⟩:=h1;simp only[List.cons_append,mu];exact⟨j,_,rfl,h3,h4,h5,Lr l m (j+1) b d js' ks h6 h2⟩
theorem xP:∀(l:List aG) (a b:Nat) (js:List Nat),mu has c back l a js b->a<=b/\∀j∈js,a<j/\j<b
 | [],a,b,js,h=>by
  simp only[mu]at h;obtain⟨rfl,rfl⟩:=h;exact⟨Nat.le_refl _,λj hj=>by cases hj⟩
 | x::l,a,b,js,h=>by
  simp only[mu]at h;obtain⟨j,js',rfl,h3,h4,h5,h6⟩:=h;have e:=fj x _ _ h4;obtain⟨e1,e2⟩:=xP l _ _ _ h6;refine⟨by omega,λk hk=>?_⟩;rcases List.mem_cons.1 hk with rfl|hk
  ·exact⟨by omega,by omega⟩
  have:=e2 k hk;exact⟨by omega,by omega⟩
theorem yU:∀(l:List aG) (a b:Nat) (js:List Nat),eZ c c' a b->mu has c back l a js b->mu has c' back l a js b
 | [],a,b,js,hs,h=>by simp only[mu]at h ⊢;exact h
 | x::l,a,b,js,hs,h=>by
  have eo:=xP (x::l) a b js h;simp only[mu]at h ⊢
  obtain⟨j,js',rfl,h3,h4,h5,h6⟩:=h;have hj:=eo.2 j (List.mem_cons_self ..);exact⟨j,js',rfl,by rw[hs.1 a (by omega) (by omega)];exact h3,dp x _ _ (hs.sub (by omega) (by omega)) h4,by rw[hs.1 j (by omega) (by omega)];exact h5,yU l _ _ _ (hs.sub (by omega) (Nat.le_refl _)) h6⟩
structure lM (c c':aE)(ks:List Nat)(g:I3->I3):Prop where
 ins:∀k,c'.ins[k]?=if k∈ks then (c.ins[k]?).map g else c.ins[k]?
 sets:c'.sets=c.sets
theorem lM.same {ks:List Nat}{g:I3->I3}(h:lM c c' ks g){a b:Nat}(hk:∀k∈ks,k<a\/b<=k):eZ c c' a b :=
 ⟨λk h1 h2=>by rw[h.ins k,if_neg (λhm=>by have:=hk k hm;omega)],λi s hs=>by rw[h.sets];exact hs⟩
theorem lM.nil (c:aE)(g:I3->I3):lM c c [] g:=⟨λk=>by simp,rfl⟩
theorem lM.len {ks:List Nat}{g:I3->I3}(h:lM c c' ks g):c'.ins.length=c.ins.length:=by
 have key:∀k,c'.ins[k]?=none↔c.ins[k]?=none:=λk=>by
  rw[h.ins k];by_cases hm:k∈ks
  ·rw[if_pos hm,Option.map_eq_none_iff]
  rw[if_neg hm]
 have h1:=key c.ins.length;have h2:=key c'.ins.length;simp only[List.getElem?_eq_none_iff]at h1 h2;omega
theorem lM.step {ks:List Nat}{g:I3->I3}(hg:∀x,g (g x)=g x)(h:lM c c' ks g){k:Nat}{x:I3}(hx:c'.ins[k]?=some x):lM c ⟨c'.sets,c'.ins.set k (g x)⟩ (ks++[k]) g :=
 ⟨λj=>by
  show (c'.ins.set k (g x))[j]?=_
  rw[List.getElem?_set];have aq:=(List.getElem?_eq_some_iff.1 hx).1;by_cases hj:k=j
  ·subst hj;rw[if_pos rfl,if_pos aq,if_pos (by simp)];have h1:=h.ins k;rw[hx]at h1;by_cases hm:k∈ks
   ·rw[if_pos hm]at h1;cases hc:c.ins[k]? with
    | none=>rw[hc]at h1;cases h1
    | some y =>
     rw[hc]at h1;simp only[Option.map_some,Option.some.injEq]at h1 ⊢
     rw[h1,hg]
   rw[if_neg hm]at h1;rw[<-h1];rfl
  rw[if_neg hj,h.ins j];have:(j∈ks++[k])↔j∈ks:=by simp;omega
  simp only[this],h.sets⟩
theorem aAB {y:aG}:∀(l:List aG) (a m e:Nat) (js:List Nat),lM c c' js (λx=>⟨x.op,(e:Int),x.b⟩)->mu has c back l a js m->ik has c back y m e->(∀k∈js,k<e)->mP has c' back (l++[y]) a e:=by
 intro l a m e js hT;have key:∀(l:List aG) (a:Nat) (ks:List Nat),(∀k∈ks,k∈js)->(∀k∈js,k∈ks\/k<a)->mu has c back l a ks m->ik has c back y m e->mP has c' back (l++[y]) a e:=by
  intro l;induction l with
  | nil =>
   intro a ks h1 h2 h3 h4;simp only[mu]at h3;obtain⟨rfl,rfl⟩:=h3;simp only[List.nil_append,mP];refine .inl ⟨trivial,dp y _ _ (hT.same λk hk=>?_) h4⟩;rcases h2 k hk with h|h
   ·cases h
   exact .inl h
  | cons x l ih =>
   intro a ks h1 h2 h3 h4;have eo:=xP (x::l) a m ks h3;simp only[mu]at h3;obtain⟨j,js',rfl,h5,h6,h7,h8⟩:=h3;have Ea:=xP l _ _ _ h8;have hlen:=fj x _ _ h6;simp only[List.cons_append,mP];refine .inr ⟨by simp,j,?_,dp x _ _ (hT.same λk hk=>?_) h6,?_,ih (j+1) js' (λk hk=>h1 k (List.mem_cons_of_mem _ hk)) (λk hk=>?_) h8 h4⟩
   ·rw[hT.ins a,if_neg (λhm=>?_)]
    ·exact h5
    rcases h2 a hm with h|h
    ·have:=(eo.2 a h).1;omega
    omega
   ·rcases h2 k hk with h|h
    ·rcases List.mem_cons.1 h with rfl|h
     ·exact .inr (Nat.le_refl _)
     have:=(Ea.2 k h).1;exact .inr (by omega)
    exact .inl (by omega)
   ·rw[hT.ins j,if_pos (h1 j (List.mem_cons_self ..)),h7];rfl
   rcases h2 k hk with h|h
   ·rcases List.mem_cons.1 h with rfl|h
    ·exact .inr (by omega)
    exact .inl h
   exact .inr (by omega)
 intro h3 h4 _;exact key l a js (λk h=>h) (λk h=>.inl h) h3 h4
def oN (c:aE)(S:Nat->Nat->Prop):Nat->Nat->List Nat->Nat->Prop
 | 0,m,ks,e=>ks=[]/\m=e
 | t+1,m,ks,e=>∃Tj,ks=m::Tj/\c.ins[m]?=some ⟨2,((m+1:Nat):Int),0⟩/\∃m',S (m+1) m'/\oN c S t m' Tj e
theorem GR {S:Nat->Nat->Prop}{e e':Nat}(hx:c.ins[e]?=some ⟨2,((e+1:Nat):Int),0⟩)(hS:S (e+1) e'):∀(t m:Nat) (ks:List Nat),oN c S t m ks e->oN c S (t+1) m (ks++[e]) e'
 | 0,m,ks,h=>by
  simp only[oN]at h;obtain⟨rfl,rfl⟩:=h;simp only[List.nil_append,oN];exact⟨[],rfl,hx,e',hS,rfl,rfl⟩
 | t+1,m,ks,h=>by
  rw[oN]at h;obtain⟨Tj,rfl,h1,m',h2,h3⟩:=h;rw[List.cons_append,oN];exact⟨_,rfl,h1,m',h2,GR hx hS t m' Tj h3⟩
theorem Ap {S:Nat->Nat->Prop}{k e:Nat}(hl:∀a b,S a b->b=a+k):∀(t m:Nat) (ks:List Nat),oN c S t m ks e->e=m+t*(k+1)/\∀j∈ks,m<=j/\j<e
 | 0,m,ks,h=>by
  simp only[oN]at h;obtain⟨rfl,rfl⟩:=h;exact⟨by simp,λj hj=>by cases hj⟩
 | t+1,m,ks,h=>by
  rw[oN]at h;obtain⟨Tj,rfl,h1,m',h2,h3⟩:=h;have e1:=hl _ _ h2;obtain⟨e2,e3⟩:=Ap hl t m' Tj h3;refine⟨by rw[Nat.succ_mul];omega,λj hj=>?_⟩;rcases List.mem_cons.1 hj with rfl|hj
  ·exact⟨Nat.le_refl _,by omega⟩
  have:=e3 j hj;exact⟨by omega,this.2⟩
theorem GQ {S S':Nat->Nat->Prop}{k e A:Nat}(hl:∀a b,S a b->b=a+k)(h:∀a b,A<=a->b<=e->S a b->S' a b)(hs:eZ c c' A e):∀(t m:Nat) (ks:List Nat),A<=m->oN c S t m ks e->oN c' S' t m ks e
 | 0,m,ks,_,hh=>hh
 | t+1,m,ks,hA,hh=>by
  rw[oN]at hh ⊢
  obtain⟨Tj,rfl,h1,m',h2,h3⟩:=hh;have e1:=hl _ _ h2;have e2:=(Ap hl t m' Tj h3).1;have e4:0<=t*(k+1):=Nat.zero_le _;exact⟨Tj,rfl,by rw[hs.1 m hA (by omega)];exact h1,m',h _ _ (by omega) (by omega) h2,GQ hl h hs t m' Tj (by omega) h3⟩
theorem RP {S S':Nat->Nat->Prop}{k e:Nat}{js:List Nat}(hl:∀a b,S a b->b=a+k)(hT:lM c c' js (λx=>⟨x.op,x.a,(e:Int)⟩))(h:∀a b,S a b->(∀j∈js,j<a\/b<=j)->S' a b):∀(t m:Nat) (ks:List Nat),(∀j∈ks,j∈js)->(∀j∈js,j∈ks\/j<m)->oN c S t m ks e->tp c' S' e t m
 | 0,m,ks,_,_,hh=>by
  simp only[oN]at hh;exact hh.2
 | t+1,m,ks,h1,h2,hh=>by
  rw[oN]at hh;obtain⟨Tj,rfl,h3,m',h4,h5⟩:=hh;have e1:=hl _ _ h4;have eo:=(Ap hl t m' Tj h5).2;refine⟨?_,m',h _ _ h4 (λj hj=>?_),RP hl hT h t m' Tj (λj hj=>h1 j (List.mem_cons_of_mem _ hj)) (λj hj=>?_) h5⟩
  ·rw[hT.ins m,if_pos (h1 m (List.mem_cons_self ..)),h3];rfl
  ·rcases h2 j hj with h|h
   ·rcases List.mem_cons.1 h with rfl|h
    ·exact .inl (by omega)
    have:=(eo j h).1;exact .inr (by omega)
   exact .inl (by omega)
  rcases h2 j hj with h|h
  ·rcases List.mem_cons.1 h with rfl|h
   ·exact .inr (by omega)
   exact .inl h
  exact .inr (by omega)
end
end
section
def pk (l:List Tok):Nat:=(l.map λt=>t.text.length).sum
structure Tw (fY:List (List UInt8))(l:List Tok):Prop where
 pos:∀t∈l,t.kind≠5->1<=t.text.length
 fY:∀t∈l,t.text ∉ fY
theorem Tw.tail {fY:List (List UInt8)}{t:Tok}{l:List Tok}(h:Tw fY (t::l)):Tw fY l:=⟨λx hx=>h.pos x (List.mem_cons_of_mem _ hx),λx hx=>h.fY x (List.mem_cons_of_mem _ hx)⟩
def Cw (fY:List (List UInt8)){α:Type}(Q:α->Nat->Prop)(p:Pa α):Prop:=∀l x l',Tw fY l->p l=.ok (x,l')->Tw fY l'/\∃d,pk l=d+pk l'/\Q x d
section
variable {fY:List (List UInt8)} {α β:Type} {Q:α->Nat->Prop} {R:β->Nat->Prop} {p:Pa α} {q:α->Pa β}
theorem Cw.pr {x:α}(h:Q x 0):Cw fY Q (pr x):=λl y l' hl e=>by cases e;exact⟨hl,0,by omega,h⟩
theorem Cw.fail {e:Nat}:Cw fY Q (eJ e):=λl y l' _ h=>by cases h
theorem Cw.iT {Q':α->Nat->Prop}(h:Cw fY Q p)(hm:∀x d,Q x d->Q' x d):Cw fY Q' p:=λl x l' hl e=>by
 obtain⟨h1,d,h2,h3⟩:=h l x l' hl e;exact⟨h1,d,h2,hm x d h3⟩
theorem Cw.pb (h:Cw fY Q p)(k:∀x d,Q x d->Cw fY (λy e=>R y (d+e)) (q x)):Cw fY R (pb p q):=λl y l' hl e=>by
 obtain⟨x,l1,e1,e2⟩:=eI e;obtain⟨h1,d,h2,h3⟩:=h l x l1 hl e1;obtain⟨h4,d',h5,h6⟩:=k x d h3 l1 y l' h1 e2;exact⟨h4,d+d',by omega,h6⟩
theorem Cw.bE {cc:List Tok->Bool}{p1 p2:Pa α}(h1:Cw fY Q p1)(h2:Cw fY Q p2):Cw fY Q (bE cc p1 p2):=λl x l' hl e=>by
 unfold Cae.bE at e;split at e
 ·exact h1 l x l' hl e
 exact h2 l x l' hl e
theorem Cw.aMV {m:List UInt8}{p1 p2:Pa α}(hm:m∈fY)(h2:Cw fY Q p2):Cw fY Q (Cae.bE (dm m) p1 p2):=λl x l' hl e=>by
 unfold Cae.bE at e;split at e
 ·rename_i hs;exfalso;unfold dm at hs;rw[Bool.and_eq_true]at hs;cases l with
  | nil=>simp[hd]at hs
  | cons t r =>
   have h1:t.text=m:=by simpa[hd] using hs.2
   exact hl.fY t (List.mem_cons_self ..) (h1▸hm)
 exact h2 l x l' hl e
theorem Cw.ite {c:Prop}[Decidable c]{p1 p2:Pa α}(h1:c->Cw fY Q p1)(h2:¬c->Cw fY Q p2):Cw fY Q (if c then p1 else p2):=by
 by_cases h:c
 ·rw[if_pos h];exact h1 h
 rw[if_neg h];exact h2 h
end
section
variable {fY:List (List UInt8)}
def Dv (n:Nat){α:Type}(_:α)(d:Nat):Prop:=n<=d
theorem Cw.dr:Cw fY (Dv 0) dr:=λl x l' hl e=>by cases e;exact⟨hl,0,by omega,Nat.le_refl _⟩
theorem Cw.pop:Cw fY (Dv 1) cZ:=λl x l' hl e=>by
 obtain⟨t,rfl,hk⟩:=uf e;refine⟨hl.tail,t.text.length,by simp[pk],hl.pos t (List.mem_cons_self ..) hk⟩
theorem jm (s:List UInt8):Cw fY (Dv 1) (dM s):=Cw.bE Cw.pop Cw.fail
theorem dd {α β:Type}{p:Pa α}{q:α->Pa β}{n m:Nat}(h:Cw fY (Dv n) p)(k:∀x,Cw fY (Dv m) (q x)):Cw fY (Dv (n+m)) (pb p q) :=
 Cw.pb h λx d hd=>(k x).iT λy e he=>by show n+m<=d+e;exact Nat.add_le_add hd he
theorem fb {α:Type}{p:Pa α}{n m:Nat}(h:Cw fY (Dv n) p)(hm:m<=n):Cw fY (Dv m) p:=h.iT λ_ _ hd=>Nat.le_trans hm hd
theorem QB:Cw fY (Dv 1) nS:=Cw.bE (Cw.bE Cw.fail (dd (n:=0) (m:=1) Cw.dr λt=>dd (n:=1) (m:=0) Cw.pop λ_=>Cw.pr (Nat.le_refl _))) Cw.fail
theorem aGi:Cw fY (Dv 0) vN :=
 Cw.bE (fb (dd (n:=1) (m:=0) Cw.pop λ_=>Cw.pr (Nat.le_refl _)) (by omega)) (Cw.bE (fb (dd (n:=1) (m:=0) Cw.pop λ_=>Cw.pr (Nat.le_refl _)) (by omega)) (Cw.bE (fb (dd (n:=1) (m:=0) Cw.pop λ_=>Cw.pr (Nat.le_refl _)) (by omega)) (Cw.pr (Nat.le_refl _))))
theorem ye {one:Pa bB}(h:Cw fY (Dv 1) one)(pos:Nat):∀(n:Nat) (k:bB),Cw fY (Dv 0) (de one pos n k)
 | 0,_=>Cw.fail
 | n+1,k=>fb (dd (n:=0) (m:=0) aGi λc=>Cw.ite (λ_=>Cw.pr (Nat.le_refl _)) λ_=>fb (dd (n:=1) (m:=0) h λr=>ye h pos n _) (by omega)) (by omega)
theorem Jl {one:Pa bB}(h:Cw fY (Dv 1) one):Cw fY (Dv 1) (th one):=dd (n:=0) (m:=1) Cw.dr λt=>dd (n:=1) (m:=0) h λk=>ye h _ _ _
theorem aGj:Cw fY (Dv 1) IL:=dd (n:=0) (m:=1) Cw.dr λt=>by
 split
 ·exact Cw.fail
 exact dd (n:=1) (m:=0) Cw.pop λ_=>Cw.pr (Nat.le_refl _)
theorem Gn:∀d,Cw fY (Dv 1) (mA d)
 | 0=>Cw.fail
 | d+1=>Cw.bE aGj (Cw.bE (dd (n:=0) (m:=1) Cw.dr λt=>dd (n:=1) (m:=0) Cw.pop λ_=>fb (dd (n:=1) (m:=0) (Gn d) λk=>Cw.pr (Nat.le_refl _)) (by omega))
  (Cw.bE (dd (n:=1) (m:=0) Cw.pop λ_=>fb (dd (n:=1) (m:=1) (Jl (Gn d)) λk=>dd (n:=1) (m:=0) (jm _) λ_=>Cw.pr (Nat.le_refl _)) (by omega))
   (dd (n:=0) (m:=1) Cw.dr λt=>dd (n:=1) (m:=0) QB λn=>Cw.pr (Nat.le_refl _))))
theorem Jm:Cw fY (λn d=>n<=12/\1<=d) kD:=Cw.bE (Cw.pb (Q:=Dv 0) Cw.dr λt d _=>Cw.ite (λ_=>Cw.fail) λh=>Cw.pb (Q:=Dv 1) Cw.pop λ_ e he=>Cw.pr ⟨by omega,by have:1<=e:=he;omega⟩) Cw.fail
def RgT (q:Int×Int):Prop:=0<=q.1/\q.1<=12/\q.2<=12/\(q.2<0\/q.1<=q.2)
theorem SG:Cw fY (λq d=>RgT q) dR:=Cw.pb Jm λlo d Ag=>Cw.bE (Cw.pb (Q:=Dv 1) Cw.pop λ_ _ _=>Cw.bE
  (Cw.pb Jm λhi _ Ve=>Cw.ite (λ_=>Cw.fail) λh=>Cw.pb (jm _) λ_ _ _=>Cw.pr (by unfold RgT;dsimp only;omega))
  (Cw.pb (jm _) λ_ _ _=>Cw.pr (by unfold RgT;dsimp only;omega)))
 (Cw.pb (jm _) λ_ _ _=>Cw.pr (by unfold RgT;dsimp only;omega))
structure tw (fY:List (List UInt8))(M:aG->Nat->Prop)(ML AL:List aG->Nat->Prop):Prop where
 iT:∀x d e,M x d->d<=e->M x e
 one:∀k,M (.one k) 1
 any:M .any 1
 gh:M .gh 1
 nil:ML [] 0
 snoc:∀l x d e,ML l d->M x e->ML (l++[x]) (d+e)
 cat:∀l d,ML l d->M (rowOf l) d
 first:∀x d,M x d->AL [x] d
 more:∀l x d e,AL l d->M x e->AL (l++[x]) (d+1+e)
 alt:∀l d,AL l d->M (jj l) d
 LH:∀l d e,AL l d->d<=e->AL l e
 RF:∀l d e,ML l d->d<=e->ML l e
 suf:Cw fY (λo d=>∀q,o=some q->1<=d/\∀x e,M x e->M (.many x q.1 q.2) (e+d)) eY
variable {M:aG->Nat->Prop} {ML AL:List aG->Nat->Prop}
theorem wY (h:tw fY M ML AL)(d:Nat):∀(n c:Nat) (x:aG) (a:Nat),M x a->Cw fY (λy e=>M y (a+e)) (bl d n c x)
 | 0,_,_,_,_=>Cw.fail
 | n+1,c,x,a,hx=>Cw.pb h.suf λr b hr=>by
   cases r with
   | none=>exact Cw.pr (h.iT _ _ _ hx (by omega))
   | some q =>
    have hq:=hr q rfl;exact Cw.ite (λ_=>Cw.fail) λ_=>(wY h d n (c+1) _ (a+b) (hq.2 x a hx)).iT λy e he=>by rw[<-Nat.add_assoc];exact he
theorem UD (h:tw fY M ML AL){d:Nat}{unit:Pa aG}(hu:Cw fY M unit):Cw fY M (aZ d unit):=Cw.pb hu λx a hx=>wY h d _ _ x a hx
theorem Cm (h:tw fY M ML AL){again:Pa aG}(ha:Cw fY M again):∀(n:Nat) (l:List aG) (a:Nat),ML l a->Cw fY (λl e=>ML l (a+e)) (bN again n l)
 | 0,_,_,_=>Cw.fail
 | n+1,l,a,hl=>Cw.bE (Cw.pb ha λx b hx=>(Cm h ha n _ (a+b) (h.snoc _ _ _ _ hl hx)).iT λy e he=>by rw[<-Nat.add_assoc];exact he) (Cw.pr (h.RF _ _ _ hl (by omega)))
theorem aDM (h:tw fY M ML AL){again:Pa aG}(ha:Cw fY M again):Cw fY M (iw again):=Cw.pb ((Cm h ha _ [] 0 h.nil)) λps b uR=>Cw.pr (h.cat _ _ (h.RF _ _ _ uR (by omega)))
theorem Cl (h:tw fY M ML AL){row:Pa aG}(hr:Cw fY M row):∀(n:Nat) (l:List aG) (a:Nat),AL l a->Cw fY (λl e=>AL l (a+e)) (fB row n l)
 | 0,_,_,_=>Cw.fail
 | n+1,l,a,hl=>Cw.bE (Cw.pb (Q:=Dv 1) Cw.pop λ_ b hb=>Cw.pb hr λx c hx=>(Cl h hr n _ (a+1+c) (h.more _ _ _ _ hl hx)).iT λy e he=>h.LH _ _ _ he (by have:1<=b:=hb;omega)) (Cw.pr (h.LH _ _ _ hl (by omega)))
theorem aDK (h:tw fY M ML AL){row:Pa aG}(hr:Cw fY M row):Cw fY M (ND row):=Cw.pb hr λx a hx=>Cw.pb (Cl h hr _ [x] a (h.first _ _ hx)) λps b uR=>Cw.pr (h.alt _ _ (h.LH _ _ _ uR (by omega)))
theorem Qo (h:tw fY M ML AL){d:Nat}{unit:Pa aG}(hu:Cw fY M unit):Cw fY M (DD d unit):=Cw.ite (λ_=>Cw.fail) λ_=>aDK h (aDM h (UD h hu))
theorem Qp (h:tw fY M ML AL):∀d,Cw fY M (ax d)
 | 0=>Cw.fail
 | d+1=>Cw.bE (Cw.pb (Q:=Dv 1) Cw.pop λ_ b hb=>Cw.pr (h.iT _ _ _ h.any (by have:1<=b:=hb;omega))) (Cw.bE (Cw.pb (Q:=Dv 1) Cw.pop λ_ b hb=>Cw.pr (h.iT _ _ _ h.gh (by have:1<=b:=hb;omega)))
   (Cw.bE (Cw.pb (Q:=Dv 1) Cw.pop λ_ b hb=>Cw.pb (Qo h (Qp h d)) λx c hx=>Cw.pb (jm _) λ_ _ _=>Cw.pr (h.iT _ _ _ hx (by omega)))
    (Cw.bE (Cw.pb (Gn (d+1)) λk b hb=>Cw.pr (h.iT _ _ _ (h.one k) (by have:1<=b:=hb;omega))) Cw.fail)))
theorem Z3 (h:tw fY M ML AL)(d:Nat):Cw fY M (ry d):=Qo h (Qp h d)
end
section
variable {fY:List (List UInt8)}
theorem SH {α:Type}{m:List UInt8}{k:Nat}{v:α}{p2:Pa α}(hk:k<=m.length)(h2:Cw fY (Dv k) p2):Cw fY (Dv k) (bE (dm m) (pb cZ λ_=>pr v) p2):=λl x l' hl e=>by
 unfold Cae.bE at e;split at e
 ·rename_i hs;obtain⟨y,l1,e1,e2⟩:=eI e;obtain⟨t,rfl,Dz⟩:=uf e1;cases e2;unfold dm at hs;rw[Bool.and_eq_true]at hs;have ht:t.text=m:=by simpa[hd] using hs.2
  exact⟨hl.tail,t.text.length,by simp[pk],by show k<=t.text.length;rw[ht];exact hk⟩
 exact h2 l x l' hl e
theorem QC:Cw fY (Dv 4) iA:=SH (by decide) (λl x l' hl e=>by
 obtain⟨y,l1,e1,e2⟩:=eI e;cases e2;unfold dM Cae.bE at e1;split at e1
 ·rename_i hs;obtain⟨t,rfl,Dz⟩:=uf e1;unfold dm at hs;rw[Bool.and_eq_true]at hs;have ht:t.text=[107,101,101,112]:=by simpa[hd] using hs.2
  exact⟨hl.tail,t.text.length,by simp[pk],by show 4<=t.text.length;rw[ht];decide⟩
 cases e1)
def RM (M:aG->Nat->Prop)(r:cQ)(n:Nat):Prop:=∃a b,M r.before a/\M r.after b/\a+b+6<=n
variable {M:aG->Nat->Prop} {ML AL:List aG->Nat->Prop}
theorem aDN (h:tw fY M ML AL):Cw fY (RM M) mM:=Cw.pb (Q:=Dv 0) Cw.dr λt _ _=>Cw.pb QC λb d hd=>Cw.pb (Z3 h 9) λx a hx=>Cw.pb (jm _) λ_ c hc=>Cw.pb (Z3 h 9) λy b hy=>Cw.pb (jm _) λ_ e he=>Cw.pr ⟨a,b,hx,hy,by have h1:4<=d:=hd;have h2:1<=c:=hc;have h3:1<=e:=he;omega⟩
theorem zO (h:tw fY M ML AL):∀(n:Nat) (acc:List cQ) (a:Nat),(∀r∈acc,RM M r a)->Cw fY (λl e=>∀r∈l,RM M r (a+e)) (b8 n acc)
 | 0,_,_,_=>Cw.fail
 | n+1,acc,a,ha=>Cw.bE (Cw.ite (λ_=>Cw.fail) λ_=>Cw.pb (aDN h) λr b hr=>(zO h n _ (a+b) (λx hx=>by
   rcases List.mem_append.1 hx with hx|hx
   ·obtain⟨p,q,h1,h2,h3⟩:=ha x hx;exact⟨p,q,h1,h2,by omega⟩
   rw[List.mem_singleton.1 hx];obtain⟨p,q,h1,h2,h3⟩:=hr;exact⟨p,q,h1,h2,by omega⟩)).iT λl e he r hr=>by rw[<-Nat.add_assoc];exact he r hr) (Cw.pr (λr hr=>by obtain⟨p,q,h1,h2,h3⟩:=ha r hr;exact⟨p,q,h1,h2,by omega⟩))
theorem XT:Cw fY (Dv 0) oO:=fb (dd (n:=0) (m:=0) Cw.dr λt=>fb (dd (n:=1) (m:=0) (jm _) λ_=>fb (dd (n:=1) (m:=0) QB λn=>fb (dd (n:=1) (m:=0) (jm _) λ_=>fb (dd (n:=1) (m:=0) (Jl (Gn 9)) λk=>fb (dd (n:=1) (m:=0) (jm _) λ_=>Cw.pr (Nat.le_refl _)) (by omega)) (by omega)) (by omega)) (by omega)) (by omega)) (by omega)
theorem vU:∀(n:Nat) (acc:List fT),Cw fY (Dv 0) (ba n acc)
 | 0,_=>Cw.fail
 | n+1,acc=>Cw.bE (Cw.ite (λ_=>Cw.fail) λ_=>fb (dd (n:=0) (m:=0) XT λc=>vU n _) (by omega)) (Cw.pr (Nat.le_refl _))
theorem aB6:Cw fY (Dv 0) oy:=Cw.bE (fb (dd (n:=1) (m:=0) Cw.pop λ_=>fb (dd (n:=4) (m:=0) QC λ_=>fb (dd (n:=1) (m:=0) (jm _) λ_=>Cw.pr (Nat.le_refl _)) (by omega)) (by omega)) (by omega)) (Cw.pr (Nat.le_refl _))
theorem aDL (h:tw fY M ML AL):Cw fY (λf d=>∀r∈f.rules,RM M r d) j4:=Cw.pb (vU _ _) λcs a _=>Cw.pb (zO h _ [] 0 (by simp)) λrs b iW=>Cw.pb aB6 λe c _=>Cw.pr (λr hr=>by obtain⟨p,q,h1,h2,h3⟩:=iW r hr;exact⟨p,q,h1,h2,by omega⟩)
theorem Oz (l:List Tok):A4 l=pk l:=by
 induction l with
 | nil=>rfl
 | cons t l ih=>simp[A4,pk]at ih ⊢
theorem L9 (h:tw fY M ML AL){s:List UInt8}{f:dX}(hb:∀m∈fY,m≠[])(hs:∀m∈fY,¬m <:+: s)(hp:dy s=.ok f):∀r∈f.rules,RM M r s.length:=by
 unfold dy at hp;split at hp
 ·cases hp
 rename_i l hl;obtain⟨m,hm,e,hn⟩:=lA _ _ _ _ _ (by simp) hl;rw[List.nil_append]at e;have r5:=hm.sum;have hT:Tw fY l:=by
  rw[e];refine⟨λt ht hk=>?_,λt ht aG1=>?_⟩
  ·rcases List.mem_append.1 ht with ht|ht
   ·exact r5.2 t ht
   rw[List.mem_singleton.1 ht]at hk;exact absurd rfl hk
  rcases List.mem_append.1 ht with ht|ht
  ·exact hs _ aG1 (hm.inside t ht)
  rw[List.mem_singleton.1 ht]at aG1;exact hb _ aG1 rfl
 split at hp
 ·cases hp
 rename_i f' l' hf;split at hp
 ·cases hp;obtain⟨_,d,h2,h3⟩:=aDL h l _ _ hT hf;have hlen:pk l<=s.length:=by
   rw[e];have h1:=r5.1;rw[Oz]at h1;simp[pk]at h1 ⊢
   exact h1
  intro r hr;obtain⟨p,q,h4,h5,h6⟩:=h3 r hr;exact⟨p,q,h4,h5,by omega⟩
 cases hp
end
theorem uC:∀(l:List aG) (x:aG),l≠[]->fZ (l++[x])=fZ l+2+bO x
 | [],x,h=>absurd rfl h
 | [y],x,_=>by simp[fZ]
 | y::z::l,x,_=>by
  have:=uC (z::l) x (by simp);have e1:fZ (y::(z::l++[x]))=bO y+2+fZ (z::l++[x]):=by rw[fZ,if_neg (by simp)]
  have e2:fZ (y::z::l)=bO y+2+fZ (z::l):=by rw[fZ,if_neg (by simp)]
  rw[List.cons_append,e1,e2,this];omega
theorem BT (l:List aG)(x:aG):cD (l++[x])=cD l+bO x:=by
 induction l with
 | nil=>simp[cD]
 | cons y l ih=>rw[List.cons_append,cD,cD,ih];omega
theorem BW (l:List aG):bO (rowOf l)=cD l:=by
 match l with
 | []=>rfl
 | [x]=>simp[rowOf,cD]
 | x::y::l=>rfl
theorem BV (l:List aG):bO (jj l)=fZ l:=by
 match l with
 | []=>rfl
 | [x]=>simp[jj,fZ]
 | x::y::l=>rfl
theorem OS:tw [[43],[123]] (λx d=>bO x<=2*d) (λl d=>cD l<=2*d) (λl d=>l≠[]/\fZ l<=2*d) where
 iT x d e h hd:=by omega
 one k:=by simp[bO]
 any:=by simp[bO]
 gh:=by simp[bO]
 nil:=by simp[cD]
 snoc l x d e h1 h2:=by rw[BT];omega
 cat l d h:=by rw[BW];exact h
 first x d h:=⟨by simp,by simpa[fZ] using h⟩
 more l x d e h1 h2:=⟨by simp,by rw[uC l x h1.1];omega⟩
 alt l d h:=by rw[BV];exact h.2
 LH l d e h hd:=⟨h.1,by omega⟩
 RF l d e h hd:=by omega
 suf:=Cw.bE (Cw.pb (Q:=Dv 1) Cw.pop λ_ b hb=>Cw.pr (λq hq=>by cases hq;have h1:1<=b:=hb;exact⟨by omega,λx e he=>by simp[bO];omega⟩)) (Cw.aMV (by simp) (Cw.bE (Cw.pb (Q:=Dv 1) Cw.pop λ_ b hb=>Cw.pr (λq hq=>by cases hq;have h1:1<=b:=hb;exact⟨by omega,λx e he=>by simp[bO];omega⟩)) (Cw.aMV (by simp) (Cw.pr (λq hq=>by cases hq)))))
theorem Rv {x:aG}{q:Int×Int}(hq:RgT q):bO (.many x q.1 q.2)+1<=16*(bO x+1):=by
 obtain⟨h1,h2,h3,h4⟩:=hq;obtain⟨lo,Ag⟩:∃lo:Nat,q.1=lo:=⟨q.1.toNat,by omega⟩;simp only[bO,Ag,Int.toNat_natCast];have hl:lo<=12:=by omega
 have h5:lo*bO x<=12*bO x:=Nat.mul_le_mul_right _ hl;split
 ·omega
 obtain⟨k,hk⟩:∃k:Nat,q.2=lo+k:=⟨(q.2-lo).toNat,by omega⟩;have e:(q.2-(lo:Int)).toNat=k:=by omega
 rw[e];have h6:lo*bO x+k*(bO x+1)<=(lo+k)*(bO x+1):=by rw[Nat.add_mul,Nat.mul_add lo];omega
 have h7:(lo+k)*(bO x+1)<=12*(bO x+1):=Nat.mul_le_mul_right _ (by omega);omega
theorem pow_two {a b d e:Nat}(h1:a+1<=16 ^ d)(h2:b+1<=16 ^ e):(a+1)*(b+1)<=16 ^ (d+e):=by rw[Nat.pow_add];exact Nat.mul_le_mul h1 h2
theorem ZV:tw [] (λx d=>bO x+1<=16 ^ d) (λl d=>cD l+1<=16 ^ d) (λl d=>l≠[]/\fZ l+1<=16 ^ d) where
 iT x d e h hd:=Nat.le_trans h (Nat.pow_le_pow_right (by omega) hd)
 one k:=by simp[bO]
 any:=by simp[bO]
 gh:=by simp[bO]
 nil:=by simp[cD]
 snoc l x d e h1 h2:=by
  rw[BT]
  have:=pow_two h1 h2;have e1:(cD l+1)*(bO x+1)=cD l*bO x+cD l+bO x+1:=by rw[Nat.add_mul,Nat.mul_add];omega
  omega
 cat l d h:=by rw[BW];exact h
 first x d h:=⟨by simp,by simpa[fZ] using h⟩
 more l x d e h1 h2:=⟨by simp,by
  rw[uC l x h1.1]
  have:=pow_two h1.2 h2;have e1:(fZ l+1)*(bO x+1)=fZ l*bO x+fZ l+bO x+1:=by rw[Nat.add_mul,Nat.mul_add];omega
  have e2:16 ^ (d+1+e)=16*16 ^ (d+e):=by rw[show d+1+e=(d+e)+1 by omega,Nat.pow_succ];omega
  omega⟩
 alt l d h:=by rw[BV];exact h.2
 LH l d e h hd:=⟨h.1,Nat.le_trans h.2 (Nat.pow_le_pow_right (by omega) hd)⟩
 RF l d e h hd:=Nat.le_trans h (Nat.pow_le_pow_right (by omega) hd)
 suf:=by
  have key:∀(q:Int×Int) (d:Nat),RgT q->1<=d->1<=d/\∀(x:aG) (e:Nat),bO x+1<=16 ^ e->bO (.many x q.1 q.2)+1<=16 ^ (e+d):=λq d hq hd=>⟨hd,λx e he=>by
   have h1:=Rv (x:=x) hq;have h2:16 ^ (e+1)<=16 ^ (e+d):=Nat.pow_le_pow_right (by omega) (by omega);have h3:16 ^ (e+1)=16*16 ^ e:=by rw[Nat.pow_succ];omega
   omega⟩
  exact Cw.bE (Cw.pb (Q:=Dv 1) Cw.pop λ_ b hb=>Cw.pr (λq hq=>by cases hq;exact key _ _ (by unfold RgT;decide) hb)) (Cw.bE (Cw.pb (Q:=Dv 1) Cw.pop λ_ b hb=>Cw.pr (λq hq=>by cases hq;exact key _ _ (by unfold RgT;decide) hb)) (Cw.bE (Cw.pb (Q:=Dv 1) Cw.pop λ_ b hb=>Cw.pr (λq hq=>by cases hq;exact key _ _ (by unfold RgT;decide) hb)) (Cw.bE (Cw.pb (Q:=Dv 1) Cw.pop λ_ b hb=>Cw.pb SG λr c hr=>Cw.pr (λq hq=>by cases hq;have h1:1<=b:=hb;exact key _ _ hr (by omega))) (Cw.pr (λq hq=>by cases hq)))))
theorem NV {s:List UInt8}{f:dX}(hl:s.length<=900)(h1:(43:UInt8) ∉ s)(h2:(123:UInt8) ∉ s)(hp:dy s=.ok f):∀r∈f.rules,bO r.before+1<=2000/\bO r.after+1<=2000:=λr hr=>by
 obtain⟨a,b,h3,h4,h5⟩:=L9 OS (by simp) (λm hm hi=>by
  have lg:∀c∈m,c∈s:=λc hc=>hi.subset hc;simp only[List.mem_cons,List.not_mem_nil,or_false]at hm;rcases hm with rfl|rfl
  ·exact h1 (lg 43 (by simp))
  exact h2 (lg 123 (by simp))) hp r hr
 exact⟨by omega,by omega⟩
theorem NW {s:List UInt8}{f:dX}(hl:s.length<=8)(hp:dy s=.ok f):∀r∈f.rules,bO r.before+1<=2000/\bO r.after+1<=2000:=λr hr=>by
 obtain⟨a,b,h3,h4,h5⟩:=L9 ZV (by simp) (by simp) hp r hr;have h6:16 ^ a<=16 ^ 2:=Nat.pow_le_pow_right (by omega) (by omega);have h7:16 ^ b<=16 ^ 2:=Nat.pow_le_pow_right (by omega) (by omega);exact⟨by omega,by omega⟩
end
end Cae
namespace Go.Proofs.YtemjejfpadnljaaGreatDoor
open Go.Vc Go.Proofs Go.RowKit Cae
attribute [local irreducible] dN ae ak aY runK aw Sl Vc.Own vc aV cJ a7
def yz:Go.Shelf.Ren:=⟨λ| 153=>28|152=>50|226=>51|227=>52|228=>53|137=>82|119=>83|224=>84|225=>85|217=>119|266=>144|n=>n,λ| 9=>9|3=>3|4=>4|5=>5|21=>21|117=>118|116=>117|0=>0|46=>133|124=>178|n=>n,λ| n=>n⟩
theorem aDh:Go.Proofs.Lays.n153 Tryz.prog yz:={
 mixed:=by kernel_rfl
 f119:=Tryz.func83.trans (congrArg some (by kernel_rfl))
 f137:=Tryz.func82.trans (congrArg some (by kernel_rfl))
 f152:=Tryz.func50.trans (congrArg some (by kernel_rfl))
 f153:=Tryz.func28.trans (congrArg some (by kernel_rfl))
 f217:=Tryz.func119.trans (congrArg some (by kernel_rfl))
 f224:=Tryz.func84.trans (congrArg some (by kernel_rfl))
 f225:=Tryz.func85.trans (congrArg some (by kernel_rfl))
 f226:=Tryz.func51.trans (congrArg some (by kernel_rfl))
 f227:=Tryz.func52.trans (congrArg some (by kernel_rfl))
 f228:=Tryz.func53.trans (congrArg some (by kernel_rfl))
 f266:=Tryz.func144.trans (congrArg some (by kernel_rfl))
 t0:=Tryz.underlying0
 a0:=Tryz.isAgg0
 z0:=Tryz.sizeOf0
 v0:=Tryz.zeroValue0
 t3:=Tryz.underlying3
 a3:=Tryz.isAgg3
 z3:=Tryz.sizeOf3
 v3:=Tryz.zeroValue3
 t4:=Tryz.underlying4
 a4:=Tryz.isAgg4
 z4:=Tryz.sizeOf4
 v4:=Tryz.zeroValue4
 t5:=Tryz.underlying5
 a5:=Tryz.isAgg5
 z5:=Tryz.sizeOf5
 v5:=Tryz.zeroValue5
 t9:=Tryz.underlying9
 a9:=Tryz.isAgg9
 z9:=Tryz.sizeOf9
 v9:=Tryz.zeroValue9
 t21:=Tryz.underlying21
 a21:=Tryz.isAgg21
 z21:=Tryz.sizeOf21
 v21:=Tryz.zeroValue21
 t46:=Tryz.underlying133
 a46:=Tryz.isAgg133
 z46:=Tryz.sizeOf133
 v46:=Tryz.zeroValue133
 t116:=Tryz.underlying117
 a116:=Tryz.isAgg117
 z116:=Tryz.sizeOf117
 t117:=Tryz.underlying118
 a117:=Tryz.isAgg118
 z117:=Tryz.sizeOf118
 v117:=Tryz.zeroValue118
 t124:=Tryz.underlying178
 a124:=Tryz.isAgg178
 z124:=Tryz.sizeOf178
 v124:=Tryz.zeroValue178 }
theorem Yq (s cs:List UInt8)(w:World)(h8:8<s.length)(hs:s.length<=1000000)(h2:2<=cs.length)(il:cs.length<=1000000)(hac:∀(j:Nat) b,cs[j]?=some b->b.toNat<128) :
  aw Tryz.prog 28 [str s,str cs] w λr w'=>r=.int .i64 (Lib.indexAny s cs)/\Below w.heap.size w w':=by
 refine dB Tryz.func28 (by kernel_rfl) (by kernel_rfl) ?_;have hz:=Go.zero_of_info (P:=Tryz.prog) (t:=yz.t 116) (v:=.agg (Array.replicate 256 (.bool false))) (n:=256) (by kernel_rfl);refine Calls.mono (Any.strings_IndexAny_long aDh hz.1 hz.2 ⟨s.toArray⟩ ⟨cs.toArray⟩ w (by show 2<=cs.toArray.size;simp;omega) (by show 8<s.toArray.size;simp;omega) (by show s.toArray.size<_;simp;omega) (by show cs.toArray.size<_;simp;omega) hac) ?_
 rintro e w' ⟨rfl,rfl⟩;refine⟨_,rfl,rfl,?_⟩;exact((Below.refl w.heap.size w).alloc (Nat.le_refl _) _).alloc (by simp) _
theorem YH (s:List UInt8)(w:World)(h8:8<s.length)(hs:s.length<=1000000)(h:(43:UInt8)∈s\/(123:UInt8)∈s) :
  aw Tryz.prog 9 [str s,str [123,43]] w λr w'=>r=.bool true/\Below w.heap.size w w':=by
 have qB:0<=Lib.indexAny s [123,43]:=by
  rcases h with h|h
  ·exact Cae.wH s _ 43 h (by decide)
  exact Cae.wH s _ 123 h (by decide)
 refine aD Tryz.func9 rfl (by kernel_rfl) [4] rfl ?_;push_cast -dsimp(maxSteps:=9^7) [Tryz.ntmps9];refine aA (Yq s [123,43] w h8 hs (by decide) (by decide) ?_) ?_
 ·intro j b hj;match j,hj with
  | 0,e=>cases e;decide
  | 1,e=>cases e;decide
 rintro _ w1 ⟨rfl,gS⟩;push_cast -dsimp[qB];exact gS
theorem Zp {s:List UInt8}{f:dX}(hs:s.length<=1000000)(h:dy s=.ok f):∀r∈f.rules,dD r.before/\dD r.after:=by
 unfold dy at h;split at h
 ·cases h
 rename_i l hl;have Mj:=aAW hs hl;split at h
 ·cases h
 rename_i f' l' hf;split at h
 ·cases h;exact(aDR _ _ _ Mj.txt hf).1
 cases h
theorem Xd (l l':List Rg)(hl:l.length<10000000)(X X':Nat->Prop)(v v':Value)(w:World)(hv:Sl X 2 (En bF) w v l)(Q5:Sl X' 2 (En bF) w v' l') :
  aw Tryz.prog 172 [v,v'] w λr w'=>r=.bool (decide (l=l'))/\Below w.heap.size w w':=by
 obtain⟨a,c,rfl,hc⟩:=hv.shape;obtain⟨a',c',rfl,hc'⟩:=Q5.shape;refine aD Tryz.func172 rfl (by kernel_rfl) [4] rfl ?_;push_cast -dsimp(maxSteps:=9^7) [Tryz.ntmps172];refine⟨λcf=>⟨?_,Below.refl _ _⟩,λhe=>?_⟩
 ·rw[decide_eq_false];intro h;subst h;omega
 have QO:l.length=l'.length:=by omega
 refine aK [4,5,13,14,15,16,17,18,19,20,21,22,23,24,25] (λz wx=>∃(i:Nat),z 13=.int .i64 i/\i<=l.length/\l.take i=l'.take i/\Below w.heap.size w wx) (λz _=>l.length-(intOf (z 13)).toNat) ?_ ?_
 ·exact⟨0,rfl,Nat.zero_le _,rfl,Below.refl _ _⟩
 intro z wx hI;obtain⟨i,Hc,hi,bI,hb⟩:=hI;push_cast -dsimp[Hc];refine⟨λaq=>?_,λeo=>?_⟩
 ·obtain⟨x,hx,jJ,hd,ht⟩:=ag (l:=l) (i:=i) (by omega);obtain⟨b,o,rfl,hX,aM⟩:=(hv.below hb).get hx;obtain⟨x',ID,aMB,hd',ht'⟩:=ag (l:=l') (i:=i) (by omega);obtain⟨b',o',rfl,hX',Br⟩:=(Q5.below hb).get ID;refine bu (λw'=>∀a,w'.cell? a=wx.cell? a) mixed (by kernel_rfl) (λ_=>rfl) ?_;have g0:∀bQ:World,(∀a,bQ.cell? a=wx.cell? a)->aB bQ ⟨b,o+i*2,none⟩ 0 2=some [.int .i64 x.1,.int .i64 x.2]:=λbQ hC=>ao (bF x) 0 (λj u hu=>by rw[hC];simpa using aM j u hu);have g0':∀bQ:World,(∀a,bQ.cell? a=wx.cell? a)->aB bQ ⟨b',o'+i*2,none⟩ 0 2=some [.int .i64 x'.1,.int .i64 x'.2]:=λbQ hC=>ao (bF x') 0 (λj u hu=>by rw[hC];simpa using Br j u hu);have d0:=g0 wx.drew (λ_=>rfl);have d0':=g0' wx.drew (λ_=>rfl);push_cast -dsimp[d0,d0'];have aP0:((x.1=x'.1/\x.2=x'.2))↔x=x':=by
   cases x;cases x';simp only[Prod.mk.injEq]
  rw[aP0];refine⟨⟨by omega,by omega⟩,λbQ hC=>by rw[g0 bQ hC];exact rfl,⟨by omega,by omega⟩,λbQ hC=>by rw[g0' bQ hC];exact rfl,λcf=>?_,λheq=>?_⟩
  ·refine⟨?_,hb.drew⟩;rw[decide_eq_false];intro h;subst h;rw[hx]at ID;cases ID;exact cf rfl
  have heq:x=x':=Classical.byContradiction λh=>heq h;exact⟨⟨by omega,by omega⟩,⟨i+1,rfl,by omega,by rw[ht,ht',bI,heq],hb.drew⟩,by rw[Hc];simp only[intOf];omega⟩
 refine⟨?_,hb⟩;rw[List.take_of_length_le (by omega),List.take_of_length_le (by omega)]at bI;rw[decide_eq_true bI]
theorem Yt {L:VP}{other:Prop}(ty x)(p):uX 8 ty x L other p=L (.iface ty x):=(rfl)
theorem PM:(Tryz.prog.underlying 196).isSome=true:=by kernel_rfl
attribute [push_cast] PM Yt
def NA (e:Int)(ce:List PanicEntry):Prop:=ce=[{ v:=.iface 196 (.agg #[.int .i64 e]),recovered:=false }]
def MkB (B mb nb:Nat)(back:Bool)(X:Nat->Prop)(w:World)(c:aE)(sv iv:Value)(us:List SV):Prop:=aN w mb 200 [sv,iv,.map (some nb),.bool back]/\Vc.Own B 139 1 kJ w sv us/\Vc.Own B 164 3 bX w iv c.ins/\us.length=c.sets.length /\
  sv.ownBlock≠some mb/\iv.ownBlock≠some mb/\(∀g,sv.ownBlock=some g->iv.ownBlock≠some g) /\
  ∀(i:Nat) (u:SV) (s:List Rg),us[i]?=some u->c.sets[i]?=some s->Sl (λb=>X b\/b=mb\/sv.ownBlock=some b\/iv.ownBlock=some b) 2 (En bF) w u.v s
structure Mk (B mb nb:Nat)(back:Bool)(X:Nat->Prop)(w:World)(c:aE):Prop where
 st:∃sv iv us,MkB B mb nb back X w c sv iv us
 lt:mb<B
 le:B<=w.heap.size
 few:∀s∈c.sets,aO (-2) s=true
 num:c.ins.length<=2000
 sum:c.sets.length<=c.ins.length+1
theorem Mk.below {B mb nb:Nat}{back:Bool}{X:Nat->Prop}{w w':World}{c:aE}(h:Mk B mb nb back X w c)(hb:Below w.heap.size w w'):Mk B mb nb back X w' c:=by
 obtain⟨sv,iv,us,hB,yl,ff,uV,gE,iC,mV,rB⟩:=h.st;exact⟨⟨sv,iv,us,hB.below hb hB.lt,yl.below hb,ff.below hb,uV,gE,iC,mV,λi u s h1 h2=>(rB i u s h1 h2).below hb⟩,h.lt,Nat.le_trans h.le hb.size,h.few,h.num,h.sum⟩
def Mw (w:World)(mb i:Nat):Prop:=i=mb\/∃o v,w.cell? ⟨mb,o,none⟩=some v/\v.ownBlock=some i
structure gm (mb:Nat)(w w':World):Prop where
 kept:Kept (Mw w mb) w w'
 own:∀i,Mw w' mb i->Mw w mb i\/w.heap.size<=i
theorem gm.trans {mb:Nat}{a b c:World}(h:gm mb a b)(k:gm mb b c):gm mb a c :=
 ⟨h.kept.trans k.kept (λi hi hm=>(h.own i hm).resolve_right (by omega)),λi hi=>by
  rcases k.own i hi with h1|h1
  ·exact h.own i h1
  have:=h.kept.size;exact .inr (by omega)⟩
theorem gm.below {mb:Nat}{w w':World}(hb:Below w.heap.size w w')(aq:mb<w.heap.size):gm mb w w' :=
 ⟨Kept.aQ hb (λi h1 h2=>by omega),λi hi=>by
  rcases hi with hi|⟨o,v,h1,h2⟩
  ·exact .inl (.inl hi)
  refine .inl (.inr ⟨o,v,?_,h2⟩);rw[<-hb.cell (p:=⟨mb,o,none⟩) aq];exact h1⟩
theorem gm.refl {mb:Nat}{w:World}(aq:mb<w.heap.size):gm mb w w:=gm.below (Below.refl _ _) aq
theorem aDO {w:World}{mb i:Nat}{e:TypeId}{a b c d:Value}(h:aN w mb e [a,b,c,d]):Mw w mb i↔i=mb\/a.ownBlock=some i\/b.ownBlock=some i\/c.ownBlock=some i\/d.ownBlock=some i:=by
 unfold Mw;constructor
 ·rintro(hi|⟨o,v,h1,h2⟩)
  ·exact .inl hi
  have hc:[a,b,c,d][o]?=some v:=by
   have hB:w.heap[mb]?=_:=h;simp only[World.cell?,hB]at h1;simpa using h1
  match o,hc with
  | 0,hc=>cases hc;exact .inr (.inl h2)
  | 1,hc=>cases hc;exact .inr (.inr (.inl h2))
  | 2,hc=>cases hc;exact .inr (.inr (.inr (.inl h2)))
  | 3,hc=>cases hc;exact .inr (.inr (.inr (.inr h2)))
  | _+4,hc=>simp at hc
 rintro(hi|hi|hi|hi|hi)
 ·exact .inl hi
 ·exact .inr ⟨0,a,h.cell rfl,hi⟩
 ·exact .inr ⟨1,b,h.cell rfl,hi⟩
 ·exact .inr ⟨2,c,h.cell rfl,hi⟩
 exact .inr ⟨3,d,h.cell rfl,hi⟩
theorem fA {w:World}{mb i nb:Nat}{e:TypeId}{a b:Value}{back:Bool}(h:aN w mb e [a,b,.map (some nb),.bool back]):Mw w mb i↔i=mb\/a.ownBlock=some i\/b.ownBlock=some i:=by
 rw[aDO h];simp[Value.ownBlock]
theorem Mk.mw {B mb nb:Nat}{back:Bool}{X:Nat->Prop}{w:World}{c:aE}(h:Mk B mb nb back X w c){i:Nat}(hi:Mw w mb i):(i=mb\/B<=i)/\i<w.heap.size:=by
 obtain⟨sv,iv,us,hB,yl,ff,_⟩:=h.st;have aq:=h.lt;have hle:=h.le;rcases(fA hB).1 hi with hi|hi|hi
 ·exact⟨.inl hi,by omega⟩
 ·have:=yl.block i hi;exact⟨.inr this.1,this.2⟩
 have:=ff.block i hi;exact⟨.inr this.1,this.2⟩
theorem gm.out {B mb nb:Nat}{back:Bool}{X:Nat->Prop}{w w':World}{c:aE}(h:gm mb w w')(hM:Mk B mb nb back X w c):Kept (λi=>i=mb\/B<=i) w w':=h.kept.weaken (λi _ hi=>(hM.mw hi).1)
theorem qA {B mb nb:Nat}{back:Bool}{X:Nat->Prop}{w:World}{c:aE}(h:Mk B mb nb back X w c):aw Tryz.prog 173 [.pointer (some ⟨mb,0,none⟩)] w λr w'=>r=.int .i64 c.ins.length/\w'=w:=by
 obtain⟨sv,iv,us,hB,yl,ff,uV,gE,iC,mV,rB⟩:=h.st;obtain⟨ia,ic,rfl⟩:=ff.slice;refine aD Tryz.func173 rfl (by kernel_rfl) [2] rfl ?_;push_cast -dsimp(maxSteps:=9^7) [Tryz.ntmps173];have f1:w.cell? ⟨mb,1,none⟩=some (.slice ia c.ins.length ic):=hB.cell rfl;push_cast -dsimp[f1]
def aE.push (c:aE)(x:I3):aE:=⟨c.sets,c.ins++[x]⟩
theorem vL {B mb nb:Nat}{back:Bool}{X:Nat->Prop}{w:World}{c:aE}(h:Mk B mb nb back X w c)(r5:c.sets.length<=c.ins.length+1)(x:I3) :
  Az Tryz.prog 112 [.pointer (some ⟨mb,0,none⟩),.agg #[.int .i64 x.op,.int .i64 x.a,.int .i64 x.b]] w
   (λr w'=>c.ins.length<2000/\r=.int .i64 c.ins.length/\Mk B mb nb back X w' (aE.push c x)/\gm mb w w') (λce w'=>c.ins.length=2000/\NA 4 ce/\gm mb w w'):=by
 obtain⟨sv,iv,us,hB,yl,ff,uV,gE,iC,mV,rB⟩:=h.st;obtain⟨sa,sc,rfl⟩:=yl.slice;obtain⟨ia,ic,rfl⟩:=ff.slice;have hle:=h.le;have aq:=h.lt;have Y4:=h.num;refine bR Tryz.func112 rfl (by kernel_rfl) [.tmp 4] rfl ?_;push_cast -dsimp(maxSteps:=9^7) [Tryz.ntmps112];refine aS ?_;intro w1 aU;have aU:mN w w1 164 [.int .i64 x.op,.int .i64 x.a,.int .i64 x.b]:=aU;have z1:=aU.size;have T1:=aU.aL;have B1:=hB.below aU.below hB.lt;have f1:w1.cell? ⟨mb,1,none⟩=some (.slice ia c.ins.length ic):=B1.cell rfl;have k1:gm mb w w1:=gm.below aU.below (by omega);push_cast -dsimp[f1];refine⟨λaKw=>?_,λaKw=>?_⟩
 ·refine Zo ?_;push_cast -dsimp;exact⟨by omega,rfl,k1⟩
 have B1d:=B1.drew;have T1d:=T1.drew;refine eC (λw'=>aN w' mb 200 [.slice sa us.length sc,.slice ia c.ins.length ic,.map (some nb),.bool back]/\aN w' w.heap.size 164 [.int .i64 x.op,.int .i64 x.a,.int .i64 x.b]) mixed (by kernel_rfl) (by simp) ⟨B1d,T1d⟩ ?_;have g1:w1.drew.cell? ⟨mb,1,none⟩=some (.slice ia c.ins.length ic):=B1d.cell rfl;have g2:aB w1.drew ⟨w.heap.size,0,none⟩ 0 3=some [.int .i64 x.op,.int .i64 x.a,.int .i64 x.b]:=T1d.aB;push_cast -dsimp[g1,g2];refine⟨λbQ h=>by rw[h.1.cell (o:=1) rfl];exact rfl,λbQ h=>by rw[show aB bQ ⟨w.heap.size,0,none⟩ 0 3=some [.int .i64 x.op,.int .i64 x.a,.int .i64 x.b] from h.2.aB];exact rfl,?_⟩
 refine cF fL rfl rfl (by omega) ?_;intro wa eB;have za:wa.heap.size=w1.heap.size+1:=eB.size;have Ba:=B1d.below eB.below B1d.lt;have Ta:=T1d.below eB.below T1d.lt;refine⟨⟨Ba,Ta⟩,?_⟩;have aOX:Vc.Own B 164 3 bX w1.drew (.slice ia c.ins.length ic) c.ins:=(ff.new aU).aH ((Kept.refl (λ_=>False) w1).drew) (λ_ _ h=>h);have hOa:=aOX.new eB;push_cast -dsimp;refine aP (base:=B) [x] (enc:=bX) fL hOa (by rfl) (λj u hu=>by simpa[bX] using eB.cell hu) (by simp[bX,Value.oneCell']) (by simp only[List.length_cons,List.length_nil];omega) (by show B<=wa.heap.size;omega) ?_
 intro vb wb fq Ad kL;have vA:∀g,(Value.slice ia c.ins.length ic).ownBlock=some g->B<=g/\g<w.heap.size:=λg hg=>ff.block g hg;have kb:Kept (λj=>(Value.slice ia c.ins.length ic).ownBlock=some j) w1.drew wb:=(Kept.new eB).trans (Kept.grown Ad (λ_ h=>h)) (λ_ _ h=>h);have Bb:=B1d.kept kb (λh=>iC h);have Tb:=T1d.kept kb (λh=>by have:=vA _ h;omega);refine⟨⟨Bb,Tb⟩,?_⟩;obtain⟨ib,icb,rfl⟩:=fq.slice;push_cast -dsimp;refine aC Bb (by simp) rfl ?_;intro wc fV;have zc:=fV.size;have Bc:aN wc mb 200 [.slice sa us.length sc,.slice ib (c.ins++[x]).length icb,.map (some nb),.bool back]:=fV.aL;have kd9:Kept (λ_=>False) w1 w1.drew:=(Kept.refl _ _).drew;have kc:Kept (λj=>(Value.slice ia c.ins.length ic).ownBlock=some j\/j=mb) w1 wc:=((kd9.weaken (λ_ _ h=>h.elim)).trans kb (λ_ _ h=>.inl h)).trans fV.kept (λ_ _ h=>.inr h);have Sj:=fq.aH fV.kept (λg hg hh=>by have:=(fq.block g hg).1;have h':g=mb:=hh;omega);have Si:=(yl.new aU).aH kc (λg hg hh=>by
  rcases hh with hh|hh
  ·exact mV g hg hh
  exact gE (by rw[<-hh];exact hg))
 have kw:gm mb w wc:=k1.trans ⟨kc.weaken (λi _ hi=>by
  rw[fA B1];rcases hi with hi|hi
  ·exact .inr (.inr hi)
  exact .inl hi),λi hi=>by
  rw[fA Bc]at hi;rw[fA B1];rcases hi with hi|hi|hi
  ·exact .inl (.inl hi)
  ·exact .inl (.inr (.inl hi))
  rcases kL i hi with h1|h1
  ·exact .inl (.inr (.inr h1))
  have:wa.heap.size<=i:=h1;exact .inr (by omega)⟩
 have Ct:Mk B mb nb back X wc (aE.push c x):=by
  refine⟨⟨_,_,_,Bc,Si,Sj,uV,gE,λhh=>by have:=(Sj.block _ hh).1;omega,rq Si Sj (by decide),λi u t h1 h2=>?_⟩,h.lt,by have:=kw.kept.size;omega,h.few,by simp[aE.push];omega,by simp[aE.push];omega⟩;refine((rB i u t h1 h2).below aU.below).Qn (λ_=>by simp[bF]) kc (λi hi=>by
   rcases hi with hi|hi
   ·exact .inr (.inr (.inr hi))
   exact .inr (.inl hi)) (λb hb=>?_)
  rcases hb with hb|hb|hb|hb
  ·exact .inl (.inl hb)
  ·exact .inl (.inr (.inl hb))
  ·exact .inl (.inr (.inr (.inl hb)))
  rcases kL b hb with hh|hh
  ·exact .inl (.inr (.inr (.inr hh)))
  exact .inr (by omega)
 refine⟨trivial,?_⟩;have c1:wc.cell? ⟨mb,1,none⟩=some (.slice ib (c.ins++[x]).length icb):=Bc.cell rfl;push_cast -dsimp[c1];refine⟨by rw[List.length_append];simp only[List.length_cons,List.length_nil];omega,by omega,?_,Ct,kw⟩;congr 1;rw[List.length_append];simp only[List.length_cons,List.length_nil];omega
theorem MkB.below {B mb nb:Nat}{back:Bool}{X:Nat->Prop}{w w':World}{c:aE}{sv iv:Value}{us:List SV}(h:MkB B mb nb back X w c sv iv us)(hb:Below w.heap.size w w'):MkB B mb nb back X w' c sv iv us:=by
 obtain⟨hB,yl,ff,uV,gE,iC,mV,rB⟩:=h;exact⟨hB.below hb hB.lt,yl.below hb,ff.below hb,uV,gE,iC,mV,λi u s h1 h2=>(rB i u s h1 h2).below hb⟩
theorem Vy (t s:List Rg)(ht:t.length<10000000)(hs:s.length<10000000)(X X':Nat->Prop)(v u:Value)(sb:Nat)(w:World)(hv:Sl X 2 (En bF) w v t)(hu:Sl X' 2 (En bF) w u s)(hc:w.cell? ⟨sb,0,none⟩=some u) :
  aw Tryz.prog 171 [v,.pointer (some ⟨sb,0,none⟩)] w λr w'=>r=.bool (s == t)/\Below w.heap.size w w':=by
 obtain⟨a,c,rfl,hcc⟩:=hv.shape;obtain⟨a',c',rfl,aVV⟩:=hu.shape;refine aD Tryz.func171 rfl (by kernel_rfl) [3] rfl ?_;push_cast -dsimp(maxSteps:=9^7) [Tryz.ntmps171];push_cast -dsimp[hc];refine aA (Xd s t hs X' X _ _ w hu hv) ?_;rintro _ w1 ⟨rfl,hb⟩;push_cast -dsimp;refine⟨?_,hb⟩;congr 1;by_cases h:s=t
 ·subst h;simp
 rw[decide_eq_false h,beq_eq_false_iff_ne.2 h]
theorem Uo (s:List Rg)(hs:s.length<10000000)(l:List (List Rg))(hl:l.length<1000000000)(hls:∀t∈l,t.length<10000000)(X X':Nat->Prop)(v u:Value)(sb:Nat)(w:World)(hv:eH X w v l)(hu:Sl X' 2 (En bF) w u s)(hc:w.cell? ⟨sb,0,none⟩=some u) :
  aw Tryz.prog 146 [v,.func (.func 171) #[] #[.pointer (some ⟨sb,0,none⟩)]] w λr w'=>((∃i:Nat,r=.int .i64 i/\l[i]?=some s)\/r=.int .i64 (-1))/\Below w.heap.size w w':=by
 obtain⟨a,c,rfl,hcc⟩:=hv.shape;refine aD Tryz.func146 rfl (by kernel_rfl) [4] rfl ?_;push_cast -dsimp(maxSteps:=9^7) [Tryz.ntmps146];refine aK [4,5,8,9,10,11,12,13,14,15,16,17,18] (λz wx=>∃(i:Nat),z 8=.int .i64 i/\i<=l.length/\Below w.heap.size w wx) (λz _=>l.length-(intOf (z 8)).toNat) ?_ ?_
 ·exact⟨0,rfl,Nat.zero_le _,Below.refl _ _⟩
 intro z wx hI;obtain⟨i,h8,hi,hb⟩:=hI;push_cast -dsimp[h8];refine⟨λaq=>?_,λeo=>?_⟩
 ·obtain⟨x,hx,jJ,hd,ht⟩:=ag (l:=l) (i:=i) (by omega);obtain⟨b,o,cs,ha,hX,hk,aM,u0,rfl,hu0⟩:=Sl.AJ (hv.below hb) hx;subst ha;have c0:wx.cell? ⟨b,o+i,none⟩=some u0:=by simpa using aM 0 u0 rfl
  obtain⟨a0,k0,rfl,hk0⟩:=hu0.shape;push_cast -dsimp[c0,Nat.mul_one];refine⟨⟨by omega,by omega⟩,?_⟩;refine aA (Vy x s (hls x jJ) hs X X' _ _ sb wx hu0 (hu.below hb) ((hb.cell (World.block_lt_of_cell? w _ hc)).trans hc)) ?_;rintro _ w1 ⟨rfl,gS⟩;have oU:=hb.trans (gS.mono hb.size);cases bm:(s == x) with
  | true =>
   have pG:s=x:=eq_of_beq bm;subst pG;push_cast -dsimp;exact⟨.inl ⟨i,rfl,hx⟩,oU⟩
  | false =>
   push_cast -dsimp;exact⟨⟨by omega,by omega⟩,⟨i+1,rfl,by omega,oU⟩,by rw[h8];simp only[intOf];omega⟩
 exact⟨.inr trivial,hb⟩
structure Ext (c c':aE):Prop where
 ins:∀(k:Nat) (x:I3),c.ins[k]?=some x->c'.ins[k]?=some x
 sets:∀(k:Nat) (s:List Rg),c.sets[k]?=some s->c'.sets[k]?=some s
 sum:c'.sets.length+c.ins.length<=c.sets.length+c'.ins.length
theorem Ext.refl (c:aE):Ext c c:=⟨λ_ _ h=>h,λ_ _ h=>h,Nat.le_refl _⟩
theorem Ext.trans {a b c:aE}(h:Ext a b)(k:Ext b c):Ext a c:=⟨λi x hx=>k.ins i x (h.ins i x hx),λi x hx=>k.sets i x (h.sets i x hx),by have:=h.sum;have:=k.sum;omega⟩
theorem Ext.push (c:aE)(x:I3):Ext c (aE.push c x):=⟨λk y h=>by
 show (c.ins++[x])[k]?=some y
 rw[List.getElem?_append_left (List.getElem?_eq_some_iff.1 h).1];exact h,λ_ _ h=>h,by simp[aE.push]⟩
theorem Qq {B mb nb:Nat}{back:Bool}{X:Nat->Prop}{w:World}{c:aE}{sv iv:Value}{us:List SV}(h:Mk B mb nb back X w c)(hM:MkB B mb nb back X w c sv iv us)(r5:c.sets.length<=c.ins.length)(s:List Rg)(hr:aO (-2) s=true)(v:Value)
  (hv:Sl (λb=>X b\/b=mb\/sv.ownBlock=some b\/iv.ownBlock=some b) 2 (En bF) w v s) :
  Az Tryz.prog 135 [.pointer (some ⟨mb,0,none⟩),v] w
   (λr w'=>c.ins.length<2000/\(∃(c':aE) (i:Nat),Mk B mb nb back X w' c'/\Ext c c'/\c'.ins.length=c.ins.length+1/\c'.ins[c.ins.length]?=some ⟨1,(i:Int),0⟩/\c'.sets[i]?=some s)/\gm mb w w') (λce w'=>c.ins.length=2000/\NA 4 ce/\gm mb w w'):=by
 obtain⟨hB,yl,ff,uV,gE,iC,mV,rB⟩:=hM;obtain⟨sa,sc,rfl⟩:=yl.slice;obtain⟨ia,ic,rfl⟩:=ff.slice;obtain⟨va,vc,rfl,hvc⟩:=hv.shape;have hle:=h.le;have aq:=h.lt;have Y4:=h.num;have oY:=eW hr;refine bR Tryz.func135 rfl (by kernel_rfl) [] rfl ?_;push_cast -dsimp(maxSteps:=9^7) [Tryz.ntmps135];refine aS ?_;intro w1 aU;have aU:mN w w1 139 [.slice va s.length vc]:=aU;have z1:=aU.size;have T1:=aU.aL;have B1:=hB.below aU.below hB.lt;have f0:w1.cell? ⟨mb,0,none⟩=some (.slice sa us.length sc):=B1.cell rfl;have t0:w1.cell? ⟨w.heap.size,0,none⟩=some (.slice va s.length vc):=T1.cell rfl;push_cast -dsimp[f0];have hSV:eH (λ_=>False) w1 (.slice sa us.length sc) c.sets:=eH.sj uV ((yl.new aU).sl.weaken (λ_ h=>h.elim)) (λi u s h1 h2=>((rB i u s h1 h2).below aU.below).weaken (λ_ h=>h.elim));refine aA (Uo s (by omega) c.sets (by omega) (λx hx=>by have:=eW (h.few x hx);omega) (λ_=>False) (λ_=>False) (.slice sa us.length sc) (.slice va s.length vc) w.heap.size w1 hSV ((hv.below aU.below).weaken (λ_ h=>h.elim)) t0) ?_;rintro r w2 ⟨rZ,dt⟩;have z2:=dt.size;have fP:=aU.below.trans (dt.mono (by omega));have k2:gm mb w w2:=gm.below fP (by omega);rcases rZ with ⟨i,rfl,hi⟩|rfl
 ·push_cast -dsimp;refine⟨λh0=>by omega,λh0=>?_⟩;refine aF (vL (h.below fP) (by omega) ⟨1,(i:Int),0⟩) ?_ ?_
  ·rintro _ w3 ⟨hl,rfl,Hf,k3⟩;push_cast -dsimp;exact⟨hl,⟨_,i,Hf,Ext.push c _,by simp[aE.push],by show (c.ins++[_])[c.ins.length]?=_;rw[List.getElem?_append_right (Nat.le_refl _),Nat.sub_self];rfl,hi⟩,k2.trans k3⟩
  rintro ce w3 ⟨hl,ht,k3⟩;push_cast -dsimp;exact⟨hl,ht,k2.trans k3⟩
 push_cast -dsimp;have B2:=B1.below dt B1.lt;have T2:=T1.below dt T1.lt;have B2d:=B2.drew;have T2d:=T2.drew;refine eC (λw'=>aN w' mb 200 [.slice sa us.length sc,.slice ia c.ins.length ic,.map (some nb),.bool back]/\aN w' w.heap.size 139 [.slice va s.length vc]) mixed (by kernel_rfl) (by simp) ⟨B2d,T2d⟩ ?_;have g0:w2.drew.cell? ⟨mb,0,none⟩=some (.slice sa us.length sc):=B2d.cell rfl;have g1:w2.drew.cell? ⟨w.heap.size,0,none⟩=some (.slice va s.length vc):=T2d.cell rfl;push_cast -dsimp[g0,g1];refine⟨λbQ h=>by rw[h.1.cell (o:=0) rfl];exact rfl,λbQ h=>by rw[h.2.cell (o:=0) rfl];exact rfl,?_⟩;refine cF nw rfl rfl (by omega) ?_;intro wa eB;have za:wa.heap.size=w2.heap.size+1:=eB.size;have Ba:=B2d.below eB.below B2d.lt;have Ta:=T2d.below eB.below T2d.lt;refine⟨⟨Ba,Ta⟩,?_⟩;have aOV:Vc.Own B 139 1 kJ w2.drew (.slice sa us.length sc) us:=((yl.new aU).below dt).aH ((Kept.refl (λ_=>False) w2).drew) (λ_ _ h=>h);have aOU:=aOV.new eB;push_cast -dsimp;refine aP (base:=B) [(⟨va,s.length,vc⟩:SV)] (enc:=kJ) nw aOU (by rfl) (λj u hu=>by simpa[kJ,SV.v] using eB.cell hu) xo (by simp only[List.length_cons,List.length_nil];omega) (by show B<=wa.heap.size;omega) ?_
 intro vb wb fq Ad kL;have uU:∀g,(Value.slice sa us.length sc).ownBlock=some g->B<=g/\g<w.heap.size:=λg hg=>yl.block g hg;have kb:Kept (λj=>(Value.slice sa us.length sc).ownBlock=some j) w2.drew wb:=(Kept.new eB).trans (Kept.grown Ad (λ_ h=>h)) (λ_ _ h=>h);have Bb:=B2d.kept kb (λh=>gE h);have Tb:=T2d.kept kb (λh=>by have:=uU _ h;omega);refine⟨⟨Bb,Tb⟩,?_⟩;have zb:w2.heap.size+1<=wb.heap.size:=by have:=Ad.size;omega
 obtain⟨ib,icb,rfl⟩:=fq.slice;push_cast -dsimp;refine aC Bb (by simp) rfl ?_;intro wc fV;have zc:=fV.size;have Bc:aN wc mb 200 [.slice ib (us++[(⟨va,s.length,vc⟩:SV)]).length icb,.slice ia c.ins.length ic,.map (some nb),.bool back]:=fV.aL;have c0:wc.cell? ⟨mb,0,none⟩=some (.slice ib (us++[(⟨va,s.length,vc⟩:SV)]).length icb):=Bc.cell rfl;have kd2:Kept (λ_=>False) w2 w2.drew:=(Kept.refl _ _).drew;have kc:Kept (λj=>(Value.slice sa us.length sc).ownBlock=some j\/j=mb) w2 wc:=((kd2.weaken (λ_ _ h=>h.elim)).trans kb (λ_ _ h=>.inl h)).trans fV.kept (λ_ _ h=>.inr h);have hlu:(us++[(⟨va,s.length,vc⟩:SV)]).length=c.sets.length+1:=by simp[uV]
 have kw:gm mb w wc:=k2.trans ⟨kc.weaken (λi _ hi=>by
  rw[fA B2];rcases hi with hi|hi
  ·exact .inr (.inl hi)
  exact .inl hi),λi hi=>by
  rw[fA Bc]at hi;rw[fA B2];rcases hi with hi|hi|hi
  ·exact .inl (.inl hi)
  ·rcases kL i hi with h1|h1
   ·exact .inl (.inr (.inl h1))
   have:wa.heap.size<=i:=h1;exact .inr (by omega)
  exact .inl (.inr (.inr hi))⟩
 have Si:=fq.aH fV.kept (λg hg hh=>by have:=(fq.block g hg).1;have h':g=mb:=hh;omega);have Sj:Vc.Own B 164 3 bX wc (.slice ia c.ins.length ic) c.ins:=(ff.below fP).aH kc (λg hg hh=>by
  rcases hh with hh|hh
  ·exact mV g hh hg
  exact iC (by rw[<-hh];exact hg))
 have lg:∀b,(X b\/b=mb\/(Value.slice ib (us++[(⟨va,s.length,vc⟩:SV)]).length icb).ownBlock=some b\/(Value.slice ia c.ins.length ic).ownBlock=some b)->(X b\/b=mb\/(Value.slice sa us.length sc).ownBlock=some b\/(Value.slice ia c.ins.length ic).ownBlock=some b)\/w2.heap.size<=b:=λb hb=>by
  rcases hb with hb|hb|hb|hb
  ·exact .inl (.inl hb)
  ·exact .inl (.inr (.inl hb))
  ·rcases kL b hb with h1|h1
   ·exact .inl (.inr (.inr (.inl h1)))
   have:wa.heap.size<=b:=h1;exact .inr (by omega)
  exact .inl (.inr (.inr (.inr hb)))
 have hkc:∀i,((Value.slice sa us.length sc).ownBlock=some i\/i=mb)->(X i\/i=mb\/(Value.slice sa us.length sc).ownBlock=some i\/(Value.slice ia c.ins.length ic).ownBlock=some i):=λi hi=>by
  rcases hi with hi|hi
  ·exact .inr (.inr (.inl hi))
  exact .inr (.inl hi)
 have Mc:Mk B mb nb back X wc ⟨c.sets++[s],c.ins⟩:=by
  refine⟨⟨_,_,_,Bc,Si,Sj,by simp[uV],λhh=>by have:=(Si.block _ hh).1;omega,iC,rq Si Sj (by decide),λi u x h1 h2=>?_⟩,h.lt,by have:=kw.kept.size;omega,λx hx=>?_,h.num,by simp only[List.length_append,List.length_cons,List.length_nil];omega⟩
  ·have rW:i<(us++[(⟨va,s.length,vc⟩:SV)]).length:=(List.getElem?_eq_some_iff.1 h1).1;by_cases hi:i<us.length
   ·rw[List.getElem?_append_left hi]at h1;rw[List.getElem?_append_left (by omega)]at h2;exact((rB i u x h1 h2).below fP).Qn (λ_=>by simp[bF]) kc hkc lg
   have e:i=us.length:=by rw[List.length_append,List.length_cons,List.length_nil]at rW;omega
   subst e;rw[List.getElem?_append_right (Nat.le_refl _),Nat.sub_self]at h1;rw[uV,List.getElem?_append_right (Nat.le_refl _),Nat.sub_self]at h2;simp at h1 h2;subst h1;subst h2;exact(hv.below fP).Qn (λ_=>by simp[bF]) kc hkc lg
  rw[List.mem_append,List.mem_singleton]at hx;rcases hx with hx|rfl
  ·exact h.few x hx
  exact hr
 refine⟨trivial,?_⟩;push_cast -dsimp[c0];have hk:(((us++[(⟨va,s.length,vc⟩:SV)]).length:Nat):Int)-1=(c.sets.length:Nat):=by rw[hlu];omega
 refine⟨by omega,?_⟩;rw[hk];refine aF (vL Mc (by simp only[List.length_append,List.length_cons,List.length_nil];omega) ⟨1,(c.sets.length:Int),0⟩) ?_ ?_
 ·rintro _ w3 ⟨hl,rfl,Hf,k3⟩;push_cast -dsimp;refine⟨hl,⟨_,c.sets.length,Hf,⟨λk y hy=>?_,λk y hy=>?_,by simp[aE.push];omega⟩,by simp[aE.push],by show (c.ins++[_])[c.ins.length]?=_;rw[List.getElem?_append_right (Nat.le_refl _),Nat.sub_self];rfl,by show (c.sets++[s])[c.sets.length]?=_;rw[List.getElem?_append_right (Nat.le_refl _),Nat.sub_self];rfl⟩,kw.trans k3⟩
  ·show (c.ins++[_])[k]?=some y
   rw[List.getElem?_append_left (List.getElem?_eq_some_iff.1 hy).1];exact hy
  show (c.sets++[s])[k]?=some y
  rw[List.getElem?_append_left (List.getElem?_eq_some_iff.1 hy).1];exact hy
 rintro ce w3 ⟨hl,ht,k3⟩;push_cast -dsimp;exact⟨hl,ht,kw.trans k3⟩
end Go.Proofs.YtemjejfpadnljaaGreatDoor
