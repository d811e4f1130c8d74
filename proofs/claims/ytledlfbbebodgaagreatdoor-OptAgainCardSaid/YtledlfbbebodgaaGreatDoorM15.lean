/- Texts of this claim, merged: Bf, Ppr, Pr1, Pr2, Less, OpA. -/
import Derived.Test.YtledlfbbebodgaaGreatDoorM14
set_option maxRecDepth 100000
set_option linter.unusedSimpArgs false
set_option linter.unusedVariables false
set_option maxHeartbeats 8000000
section
namespace Cae
theorem LC {has:ao->Int->Prop}{pts:List Int}(rules:List cD)(els:Bool):(jy has pts rules els).length<=pts.length+1:=by
 unfold jy;split
 ·simp
 exact Nat.le_trans (List.length_filter_le _ _) (by simp)
end Cae
end
section
namespace Go.Proofs.YtledlfbbebodgaaGreatDoor
open Go.Vc Go.Proofs Go.RowKit Cae
def nP (els:Bool)(ps:List Int)(i:Nat)(l:List bg):Bool:=l.foldr (λr acc=>if fO ps i r then r.brk else acc) els
theorem OQ (p:dX)(ps:List Int)(i:Nat):ee p ps i 0=nP p.els ps i p.rules:=by unfold ee nP;rw[List.drop_zero]
theorem lu (els:Bool)(ps:List Int)(i:Nat)(a b:List bg):nP els ps i (a++b)=nP (nP els ps i b) ps i a:=by unfold nP;rw[List.foldr_append]
theorem mc (els:Bool)(ps:List Int)(i:Nat)(r:bg)(l:List bg):nP els ps i (r::l)=if fO ps i r then r.brk else nP els ps i l:=rfl
theorem Dr {p:dX}{out:List bg}(h:∀ps i,nP p.els ps i p.rules=nP p.els ps i out)(ps:List Int):jz ⟨out,p.els⟩ ps=jz p ps:=by
 unfold jz bm;congr 2;funext i;unfold nL;rw[OQ,OQ,h]
def cg:List bg->Nat
 | []=>0
 | r::l=>r.before.ins.length+r.after.ins.length+cg l
theorem oW:∀(a b:List bg),cg (a++b)=cg a+cg b
 | [],b=>by simp[cg]
 | r::a,b=>by rw[List.cons_append,cg,cg,oW a b];omega
def nB (c:aD):Bool:=match c.ins[0]? with
 | none=>false
 | some x=>decide (x.op=1) && decide ((c.sets.getD x.a.toNat []).length=0)
def tS (c:aD):Bool:=match c.ins[0]? with
 | none=>false
 | some x=>decide (x.op=5)
theorem Hh {c:aD}(hc:CR c)(h:nB c=true)(ps:List Int):(eo c ps).1=false:=by
 cases hm:(eo c ps).1 with
 | false=>rfl
 | true =>
  have ha:=(mi hc ps).1 hm;unfold nB at h;cases hx:c.ins[0]? with
  | none=>rw[hx]at h;cases h
  | some x =>
   rw[hx]at h;simp only[Bool.and_eq_true,decide_eq_true_eq]at h;rw[gi hx (by omega)]at ha;obtain⟨p,r,_,hp,_⟩:=ha;rw[List.eq_nil_of_length_eq_zero h.2]at hp;exact absurd hp (by simp[fK])
theorem Ob {c:aD}(hc:CR c)(h:tS c=true)(ps:List Int):(eo c ps).1=true:=by
 rw[mi hc];unfold tS at h;cases hx:c.ins[0]? with
 | none=>rw[hx]at h;cases h
 | some x =>
  rw[hx]at h;exact lS hx (by simpa using h)
structure fk (r s:bg):Prop where
 brk:s.brk=r.brk
 cb:CR r.before
 ca:CR r.after
 before:fV r.before s.before
 after:fV r.after s.after
theorem fk.met {r s:bg}(h:fk r s)(ps:List Int)(i:Nat):fO ps i s=fO ps i r:=by
 unfold fO;rw[h.before.vm h.cb,h.after.vm h.ca]
theorem fk.dead {r s:bg}(h:fk r s)(hd:nB s.before=true\/nB s.after=true)(ps:List Int)(i:Nat):fO ps i r=false:=by
 rw[<-h.met];unfold fO;rcases hd with hd|hd
 ·rw[Hh h.before.cr hd];rfl
 rw[Hh h.after.cr hd];simp
theorem fk.yes {r s:bg}(h:fk r s)(h1:tS s.before=true)(h2:tS s.after=true)(ps:List Int)(i:Nat):fO ps i s=true:=by
 unfold fO;rw[Ob h.before.cr h1,Ob h.after.cr h2];rfl
def Ki (p:dX):Prop:=∃r l,p.rules=r::l/\(r.before.ins.length=1/\Acc r.before 0 [])/\(r.after.ins.length=1/\Acc r.after 0 [])
def Km (r:bg):Prop:=(ab r.before=true/\ab r.after=true)/\rG r.before/\rG r.after
theorem fk.ok {r s:bg}(h:fk r s):Km s:=by
 have a1:=h.before.cr.many;have a2:=h.before.cr.sets;have a3:=h.after.cr.many;have a4:=h.after.cr.sets;exact⟨⟨h.before.cr.to,h.after.cr.to⟩,⟨h.before.lens,by omega,by omega⟩,h.after.lens,by omega,by omega⟩
structure lz (p:dX)(out:List bg):Prop where
 M9:∀ps i,nP p.els ps i p.rules=nP p.els ps i out
 len:out.length<=p.rules.length
 size:cg out<=cg p.rules
 right:∀r∈out,Km r
 one:Ki p->out.length<=1
structure tc (p:dX)(k:Nat)(out:List bg):Prop where
 M9:∀ps i,nP p.els ps i p.rules=nP p.els ps i (out++p.rules.drop k)
 len:out.length<=k
 size:cg out+cg (p.rules.drop k)<=cg p.rules
 right:∀r∈out,Km r
 one:Ki p->k=0
theorem tc.zero (p:dX):tc p 0 []:=⟨λ_ _=>by rw[List.drop_zero];rfl,Nat.le_refl _,by rw[List.drop_zero,cg];omega,λ_ h=>by simp at h,λ_=>rfl⟩
theorem drop_at {α:Type}{l:List α}{k:Nat}{r:α}(h:l[k]?=some r):l.drop k=r::l.drop (k+1):=by
 have aw:=(List.getElem?_eq_some_iff.1 h).1;rw[List.drop_eq_getElem_cons aw]
 have:=List.getElem?_eq_getElem aw;rw[h]at this;cases this;rfl
theorem zO {p:dX}{r s:bg}(hA:Ki p)(hr:p.rules[0]?=some r)(h:fk r s):tS s.before=true/\tS s.after=true/\nB s.before=false/\nB s.after=false:=by
 obtain⟨r',l,e,⟨b1,b2⟩,a1,a2⟩:=hA;rw[e]at hr;cases hr;have e1:=h.before.one b1 b2;have e2:=h.after.one a1 a2;unfold tS nB;rw[e1,e2];exact⟨rfl,rfl,rfl,rfl⟩
theorem tc.gone {p:dX}{k:Nat}{out:List bg}{r s:bg}(h:tc p k out)(hr:p.rules[k]?=some r)(hs:fk r s)(hd:nB s.before=true\/nB s.after=true):tc p (k+1) out:=by
 refine⟨λps i=>?_,by have:=h.len;omega,?_,h.right,λhA=>?_⟩
 ·rw[h.M9,drop_at hr,lu,lu,mc,hs.dead hd];rfl
 ·have:=h.size;rw[drop_at hr,cg]at this;omega
 have:=h.one hA;subst this;have hh:=zO hA hr hs;rcases hd with hd|hd
 ·rw[hd]at hh;exact absurd hh.2.2.1 (by simp)
 rw[hd]at hh;exact absurd hh.2.2.2 (by simp)
theorem tc.more {p:dX}{k:Nat}{out:List bg}{r s:bg}(h:tc p k out)(hr:p.rules[k]?=some r)(hs:fk r s)(hn:¬(tS s.before=true/\tS s.after=true)):tc p (k+1) (out++[s]):=by
 refine⟨λps i=>?_,by rw[List.length_append];have:=h.len;simp only[List.length_cons,List.length_nil];omega,?_,λx hx=>?_,λhA=>?_⟩
 ·rw[h.M9,drop_at hr,List.append_assoc,List.singleton_append,lu,lu,mc,mc,hs.met,hs.brk]
 ·have:=h.size;have b:=hs.before.len;have a:=hs.after.len;rw[drop_at hr,cg]at this;rw[oW,cg,cg];omega
 ·rcases List.mem_append.1 hx with hx|hx
  ·exact h.right x hx
  simp at hx;subst hx;exact hs.ok
 have:=h.one hA;subst this;have hh:=zO hA hr hs;exact absurd ⟨hh.1,hh.2.1⟩ hn
theorem tc.last {p:dX}{k:Nat}{out:List bg}{r s:bg}(h:tc p k out)(hr:p.rules[k]?=some r)(hs:fk r s)(h1:tS s.before=true)(h2:tS s.after=true):lz p (out++[s]):=by
 have aw:=(List.getElem?_eq_some_iff.1 hr).1;refine⟨λps i=>?_,by rw[List.length_append];have:=h.len;simp only[List.length_cons,List.length_nil];omega,?_,λx hx=>?_,λhA=>?_⟩
 ·have hm:=hs.yes h1 h2 ps i;have Nb:=hs.met ps i;rw[hm]at Nb;rw[h.M9,drop_at hr,lu,lu,mc,mc,hm,<-Nb,hs.brk];rfl
 ·have:=h.size;have b:=hs.before.len;have a:=hs.after.len;rw[drop_at hr,cg]at this;rw[oW,cg,cg];omega
 ·rcases List.mem_append.1 hx with hx|hx
  ·exact h.right x hx
  simp at hx;subst hx;exact hs.ok
 have:=h.one hA;subst this
 have:=h.len;rw[List.length_append];simp only[List.length_cons,List.length_nil];omega
theorem tc.done {p:dX}{k:Nat}{out:List bg}(h:tc p k out)(hk:k=p.rules.length):lz p out:=by
 subst hk;have hd:p.rules.drop p.rules.length=[]:=List.drop_eq_nil_of_le (Nat.le_refl _);refine⟨λps i=>?_,h.len,?_,h.right,λhA=>?_⟩
 ·rw[h.M9,hd,List.append_nil]
 ·have:=h.size;rw[hd,cg]at this;omega
 have:=h.one hA;obtain⟨r,l,e,_⟩:=hA;rw[e]at this;simp at this
theorem lz.right' {p:dX}{out:List bg}(h:lz p out)(hp:eG p=true)(els:Bool):eG ⟨out,els⟩=true:=by
 have h1:=(mZ hp).1;have h2:=h.len;unfold eG;simp only[Bool.and_eq_true,decide_eq_true_eq,List.all_eq_true];exact⟨by omega,λr hr=>(h.right r hr).1⟩
theorem lz.lens {p:dX}{out:List bg}(h:lz p out)(hp:p.rules.length<1000000000)(els:Bool):td ⟨out,els⟩:=by
 have h2:=h.len;exact⟨by show out.length<_;omega,λr hr=>(h.right r hr).2⟩
end Go.Proofs.YtledlfbbebodgaaGreatDoor
end
section
namespace Go.Proofs.YtledlfbbebodgaaGreatDoor
open Go.Vc Go.Proofs Go.RowKit Cae
attribute [local irreducible] dd ae ak a7 runK bE Sl Vc.Own vc aU cJ a8
theorem Ud (c:aD)(hc:CR c)(X:Nat->Prop)(v:Value)(w:World)(hv:cW X w v c) :
  bE Tryz.prog 65 [v] w λr w'=>r=.bool (nB c)/\Below w.heap.size w w':=by
 have hm:=hc.many;have so:=hc.one;have Yo:=hc.sets;obtain⟨sv,iv,rfl,vP,vk⟩:=hv;obtain⟨a,cp,rfl,N3⟩:=vk.shape;have GF:=vP.shape;obtain⟨sa,sc,rfl,vz⟩:=GF;have rO:=dy.values vP;obtain⟨us,aOm,aFc,aFd⟩:=rO;have hg:=au (l:=c.ins) (i:=0) (by omega);obtain⟨x,hx,jQ,_⟩:=hg;refine aE Tryz.func65 rfl (by kernel_rfl) [2] rfl ?_;push_cast -dsimp(maxSteps:=4000000) [Tryz.ntmps65];refine aR ?_;intro w1 aZ;have aZ:ly w w1 70 [.slice sa c.sets.length sc,.slice a c.ins.length cp]:=aZ;have sM:=aZ.size;have hg:=(vk.below aZ.below).get hx;obtain⟨ib,io,rfl,_,hic⟩:=hg;push_cast -dsimp;refine bx (λw'=>w'=w1.drew) mixed (by kernel_rfl) rfl ?_;have hB:aM w1.drew w.heap.size 70 [.slice sa c.sets.length sc,.slice (some ⟨ib,io,none⟩) c.ins.length cp]:=aZ.aN.drew;have t1:w1.drew.cell? ⟨w.heap.size,1,none⟩=some (.slice (some ⟨ib,io,none⟩) c.ins.length cp):=hB.cell rfl;have t0:w1.drew.cell? ⟨w.heap.size,0,none⟩=some (.slice sa c.sets.length sc):=hB.cell rfl;have c0:w1.drew.cell? ⟨ib,io,none⟩=some (.int .i64 x.op):=by have:=hic 0 _ rfl;simpa using this
 have c1:w1.drew.cell? ⟨ib,io+1,none⟩=some (.int .i64 x.a):=by have:=hic 1 _ rfl;simpa using this
 have hdp:nB c=(decide (x.op=1) && decide ((c.sets.getD x.a.toNat []).length=0)):=by unfold nB;rw[hx]
 push_cast -dsimp[t1,t0,c0,c1];have L:∀{ad:Addr} {u:Value},w1.drew.cell? ad=some u->∀bU:World,bU=w1.drew->pg (bU.cell? ad) (λx=>x=u) .mk:=λh bU e=>by rw[e,h];exact rfl
 have vL:Below w.heap.size w w1.drew:=aZ.below.drew;refine⟨L t1,by omega,L c0,λh1=>⟨L t0,L t1,by omega,L c1,?_⟩,λh1=>⟨by rw[hdp,decide_eq_false h1];rfl,vL⟩⟩;have hj:=iZ hc hx (by omega);have Fh:x.a=((x.a.toNat:Nat):Int):=by rw[Int.toNat_of_nonneg hj.2.1]
 have WV:=List.getElem?_eq_getElem (l:=us) (i:=x.a.toNat) (by omega);have hug:=aFc.get WV;obtain⟨ub,uo,rfl,_,huc⟩:=hug;have hes:=List.getElem?_eq_getElem (l:=c.sets) (i:=x.a.toNat) (by omega);have eW:=(aFd _ _ _ WV hes).shape;obtain⟨ua,uc,hev,_⟩:=eW;have csv:w1.drew.cell? ⟨ub,uo+x.a.toNat,none⟩=some (.slice ua (c.sets[x.a.toNat]'(by omega)).length uc):=by
  have:=huc 0 _ rfl;rw[Nat.mul_one,Nat.add_zero,hev]at this;exact(Kept.aO vL (X:=λ_=>False) (λk hk hl=>by omega)).cell this id
 have hgd:c.sets.getD x.a.toNat []=c.sets[x.a.toNat]'(by omega):=by rw[List.getD_eq_getElem?_getD,hes];rfl
 have hgl:∃n,(c.sets[x.a.toNat]'(by omega)).length=n:=⟨_,rfl⟩;obtain⟨n,hn⟩:=hgl;rw[hgd,hn,decide_eq_true h1,Bool.true_and]at hdp;rw[hn]at csv;push_cast -dsimp[csv];refine⟨⟨by omega,by omega⟩,L csv,?_⟩;rw[hdp];exact⟨by congr 1;rw[decide_eq_decide];omega,vL⟩
theorem zH (p:dX)(hs:p.rules.length<1000000)(hl:cg p.rules<1000000000)(X:Nat->Prop)(v:Value)(w:World)(hv:nz X w v p) :
  bE Tryz.prog 37 [v] w λr w'=>r=.int .i64 (cg p.rules:Int)/\Below w.heap.size w w':=by
 obtain⟨rv,rfl,hr⟩:=hv;obtain⟨a,cp,rfl,N3⟩:=hr.shape;refine aE Tryz.func37 rfl (by kernel_rfl) [2] rfl ?_;push_cast -dsimp(maxSteps:=4000000) [Tryz.ntmps37];refine aR ?_;intro w1 aZ;have aZ:ly w w1 79 [.slice a p.rules.length cp,.bool p.els]:=aZ;have sM:=aZ.size;have c1:w1.cell? ⟨w.heap.size,0,none⟩=some (.slice a p.rules.length cp):=aZ.cell rfl;push_cast -dsimp[c1];refine aL [3,5,9,10,11,12,13,14,15,16,17,18,19,20,21,22,23,24] (λz wx=>∃i:Nat,z 9=.int .i64 i/\i<=p.rules.length/\z 3=.int .i64 (cg (p.rules.take i):Int)/\Below w1.heap.size w1 wx) (λz _=>p.rules.length-(intOf (z 9)).toNat) ?_ ?_
 ·exact⟨0,rfl,Nat.zero_le _,by rw[List.take_zero];rfl,Below.refl _ _⟩
 intro z wx hI;obtain⟨i,h9,hi,h3,bT⟩:=hI;have EZ:=bT.size;push_cast -dsimp[h9,h3];refine⟨λaw=>?_,λfT=>?_⟩
 ·have hg:=au (l:=p.rules) (i:=i) (by omega);obtain⟨r,hx,jQ,_⟩:=hg;have Sv:=aZ.below.trans (bT.mono (by omega));have hg:=(og.below hr Sv).AQ hx;obtain⟨b,o,cs,rfl,_,j1,aK,hR⟩:=hg;obtain⟨s1,i1,s2,i2,rfl,Yp,hv2⟩:=hR;have cp5:aB wx ⟨b,o+i*5,none⟩ 0 5=some [.bool r.brk,s1,i1,s2,i2]:=ax _ 0 (λj u hu=>by simpa using aK j u hu);obtain⟨_,_,he,gA,N5⟩:=Yp;cases he;obtain⟨_,_,he,gd,hi2⟩:=hv2;cases he;have eW:=gA.shape;obtain⟨x1,y1,rfl,_⟩:=eW;have eW:=gd.shape;obtain⟨x2,y2,rfl,_⟩:=eW;have eW:=N5.shape;obtain⟨a1,k1,rfl,_⟩:=eW;have eW:=hi2.shape;obtain⟨a2,k2,rfl,_⟩:=eW;push_cast -dsimp[cp5];refine⟨⟨by omega,by omega⟩,?_⟩;refine ag (z:=[.bool false,.slice none 0 0,.slice none 0 0,.slice none 0 0,.slice none 0 0]) (by kernel_rfl) ?_;intro wa dt;have YS:=dt.size;push_cast -dsimp;refine aJ (n:=5) (by kernel_rfl) dt.aN rfl (by simp) (by simp[Value.oneCell']) ?_;intro wb cL;have SY:=cL.size;have HD:aM wb wx.heap.size 139 [.bool r.brk,.slice x1 r.before.sets.length y1,.slice a1 r.before.ins.length k1,.slice x2 r.after.sets.length y2,.slice a2 r.after.ins.length k2]:=cL.aN;have e1:wb.cell? ⟨wx.heap.size,2,none⟩=some (.slice a1 r.before.ins.length k1):=HD.cell rfl;have e2:wb.cell? ⟨wx.heap.size,4,none⟩=some (.slice a2 r.after.ins.length k2):=HD.cell rfl;have K8:cg (p.rules.take (i+1))=cg (p.rules.take i)+(r.before.ins.length+r.after.ins.length):=by
   rw[List.take_add_one,hx,oW];rfl
  have ele:cg (p.rules.take (i+1))<=cg p.rules:=by
   have:=oW (p.rules.take (i+1)) (p.rules.drop (i+1));rw[List.take_append_drop]at this;omega
  have hgs:∃n,cg (p.rules.take i)=n:=⟨_,rfl⟩;obtain⟨n,hn⟩:=hgs;rw[hn]at K8;push_cast -dsimp[e1,e2];exact⟨⟨by omega,by omega⟩,⟨by omega,by omega⟩,⟨by omega,by omega⟩,⟨i+1,rfl,by omega,by rw[K8,hn];congr 1,bT.trans (dt.below.trans (cL.kept.below (by omega) (λ_ h=>by omega)) |>.mono (by omega))⟩,by rw[h9];simp only[intOf];omega⟩
 have nH:i=p.rules.length:=by omega
 subst nH;refine⟨?_,aZ.below.trans (bT.mono (by omega))⟩;rw[List.take_length]
def yZ (p:dX)(r:Value)(w':World):Prop :=
 if eG p=true then ∃out v,r=.tuple #[v,.nilIface]/\lz p out/\nz (λ_=>False) w' v ⟨out,p.els⟩ else r=.tuple #[.agg #[.slice none 0 0,.bool false],.iface 83 (.int .i64 1)]
theorem EE (p:dX)(hl:td p)(v:Value)(w:World)(hN:kI w)(hv:nz (λ_=>False) w v p) :
  bE Tryz.prog 36 [v] w λr w'=>yZ p r w'/\Below w.heap.size w w':=by
 have Iz:=hv;obtain⟨rv,rfl,hr⟩:=hv;obtain⟨a,cp,rfl,N3⟩:=hr.shape;refine jm Tryz.func36 rfl (by kernel_rfl) [.cell 2 79,.tmp 3] rfl ?_;push_cast -dsimp(maxSteps:=4000000) [Tryz.ntmps36];refine aR ?_;intro w1 aZ;have aZ:ly w w1 79 [.slice a p.rules.length cp,.bool p.els]:=aZ;have sM:=aZ.size;push_cast -dsimp;refine ag (z:=[.slice none 0 0,.bool false]) (by kernel_rfl) ?_;intro w2 bw;have HQ:=bw.size;have eR:Below w.heap.size w w2:=aZ.below.trans (bw.below.mono (by omega));have iL:aM w2 w.heap.size 79 [.slice a p.rules.length cp,.bool p.els]:=aZ.aN.below bw.below (by omega);have AS:aM w2 w1.heap.size 79 [.slice none 0 0,.bool false]:=bw.aN;have d2:=iL.aB;simp only[List.length_cons,List.length_nil,Nat.zero_add,Nat.reduceAdd]at d2;push_cast -dsimp[d2];refine aA (qm p hl _ _ w2 (Iz.below eR)) ?_;rintro _ w3 ⟨rfl,fL⟩;have TJ:=fL.size;have Ps:=iL.below fL (by omega);have hR3:=AS.below fL (by omega);have dZ:Below w.heap.size w w3:=eR.trans (fL.mono (by omega));unfold yZ;cases hPR:eG p with
 | false =>
  push_cast -dsimp;refine aJ (n:=2) (by kernel_rfl) hR3 rfl (by simp) (by simp[Value.oneCell']) ?_;intro w4 az;have q4:aB w4 ⟨w1.heap.size,0,none⟩ 0 2=some [.slice none 0 0,.bool false]:=az.aN.aB;push_cast -dsimp[q4,Bool.false_eq_true,if_false];exact dZ.trans (az.kept.below (by omega) (λ_ h=>by omega))
 | true =>
  have WQ:=mZ hPR;obtain⟨aNE,cN⟩:=WQ;have c3:w3.cell? ⟨w.heap.size,1,none⟩=some (.bool p.els):=Ps.cell rfl;push_cast -dsimp[c3];refine ag (z:=[.slice none 0 0,.bool false]) (by kernel_rfl) ?_;intro w4 az;have Yu:=az.size;push_cast -dsimp;refine aJ (n:=2) (by kernel_rfl) az.aN rfl (by simp) (by simp[Value.oneCell']) ?_;intro w5 cO;have SX:=cO.size;have k5:Kept (λj=>j=w3.heap.size) w3 w5:=(Kept.new az).trans cO.kept (λ_ _ h=>h);have Zo:=Ps.kept k5 (by omega);have hR5:=hR3.kept k5 (by omega);have hW5:aM w5 w3.heap.size 79 [.slice none 0 0,.bool p.els]:=cO.aN;have ng:Below w.heap.size w w5:=dZ.trans (k5.below (by omega) (λ_ h=>by omega));have c5:w5.cell? ⟨w.heap.size,0,none⟩=some (.slice a p.rules.length cp):=Zo.cell rfl;push_cast -dsimp[c5];refine aL [3,6,7,8,9,10,22,23,24,25,26,27,28,29,30,31,32,33,34,35,36,37,38,39,40,41,42,43,44,45,46,47,48,49,50,51,52,53,54,55,56,57,58,59,60,61,62,63,64,65,66,67,68,69,70,71,72,73,74,75,76] (λz wx=>∃(k:Nat) (out:List bg) (us:List PV) (ov:Value),z 22=.int .i64 k/\k<=p.rules.length/\tc p k out/\aM wx w3.heap.size 79 [ov,.bool p.els]/\Vc.Own w5.heap.size 139 5 nC wx ov us/\us.length=out.length /\
    (∀(i:Nat) (s:bg),out[i]?=some s->∃u,us[i]?=some u/\fF (λb=>b=w1.heap.size\/b=w3.heap.size\/ov.ownBlock=some b) wx (nC u) s) /\
    aM wx w1.heap.size 79 [.slice none 0 0,.bool false]/\Below w.heap.size w wx/\w5.heap.size<=wx.heap.size) (λz _=>p.rules.length-(intOf (z 22)).toNat) ?_ ?_
  ·exact⟨0,[],[],_,rfl,Nat.zero_le _,tc.zero p,hW5,Vc.Own.nil (enc:=nC) _ _ (λ_=>rfl) _,rfl,λi s h=>by simp at h,hR5,ng,Nat.le_refl _⟩
  intro z wx hI;obtain⟨k,out,us,ov,h22,hk,hP,hWx,kB,su,WV,yj,bT,EZ⟩:=hI;push_cast -dsimp[h22];refine⟨λaw=>?_,λfT=>?_⟩
  ·have hg:=au (l:=p.rules) (i:=k) (by omega);obtain⟨r,hx,jQ,_⟩:=hg;have Yn:=cN r jQ;have Qd:=hl.2 r jQ;have hg:=hr.AQ hx;obtain⟨b,o,cs,rfl,_,j1,aEw,hRr⟩:=hg;obtain⟨sv1,iv1,sv2,iv2,rfl,Yp,hv2⟩:=hRr;have aK:∀j u,([.bool r.brk,sv1,iv1,sv2,iv2]:List Value)[j]?=some u->wx.cell? ⟨b,o+k*5+j,none⟩=some u:=λj u hu=>(Kept.aO bT (X:=λ_=>False) (λk hk hl=>by omega)).cell (aEw j u hu) id;have cp5:aB wx ⟨b,o+k*5,none⟩ 0 5=some [.bool r.brk,sv1,iv1,sv2,iv2]:=ax _ 0 (λj u hu=>by simpa using aK j u hu);have aOn:=Yp;have aOo:=hv2;obtain⟨_,_,he,gA,N5⟩:=Yp;cases he;obtain⟨_,_,he,gd,hi2⟩:=hv2;cases he;have eW:=gA.shape;obtain⟨x1,y1,rfl,_⟩:=eW;have eW:=gd.shape;obtain⟨x2,y2,rfl,_⟩:=eW;have eW:=N5.shape;obtain⟨a1,k1,rfl,_⟩:=eW;have eW:=hi2.shape;obtain⟨a2,k2,rfl,_⟩:=eW;push_cast -dsimp[cp5];refine⟨⟨by omega,by omega⟩,?_⟩;refine ag (z:=[.bool false,.slice none 0 0,.slice none 0 0,.slice none 0 0,.slice none 0 0]) (by kernel_rfl) ?_;intro wa dt;have YS:=dt.size;push_cast -dsimp;refine aJ (n:=5) (by kernel_rfl) dt.aN rfl (by simp) (by simp[Value.oneCell']) ?_;intro wb cL;have SY:=cL.size;have kb:Below wx.heap.size wx wb:=dt.below.trans (cL.kept.below (by omega) (λ_ h=>by omega));have HD:aM wb wx.heap.size 139 [.bool r.brk,.slice x1 r.before.sets.length y1,.slice a1 r.before.ins.length k1,.slice x2 r.after.sets.length y2,.slice a2 r.after.ins.length k2]:=cL.aN
   have e1:aB wb ⟨wx.heap.size,1,none⟩ 0 2=some [.slice x1 r.before.sets.length y1,.slice a1 r.before.ins.length k1]:=rH (n:=2) HD 1 rfl rfl;have hgX:∃X,X=(λb=>b=w1.heap.size\/b=w3.heap.size\/ov.ownBlock=some b):=⟨_,rfl⟩;obtain⟨X,hX⟩:=hgX;have huX:∀(i:Nat) (s:bg),out[i]?=some s->∃u,us[i]?=some u/\fF X wx (nC u) s:=by rw[hX];exact WV
   have hXw:∀b,X b->w.heap.size<=b/\b<wx.heap.size:=λb h=>by
    rw[hX]at h;rcases h with h|h|h
    ·omega
    ·omega
    have:=kB.block b h;omega
   have aMT:cW X w _ r.before:=aOn.narrow (X':=X) (λb hb h=>by have:=hXw b h;omega);have aMU:cW X w _ r.after:=aOo.narrow (X':=X) (λb hb h=>by have:=hXw b h;omega);have jK:Below w.heap.size w wb:=bT.trans (kb.mono (by omega));have jC:=(CR.of Yn.1).many;have dG:=(CR.of Yn.1).sets;have hm3:=(CR.of Yn.2).many;have hm4:=(CR.of Yn.2).sets;push_cast -dsimp[e1];refine aA (LP r.before Qd.1.1 (by omega) (by omega) X _ wb (λb h=>by have:=hXw b h;omega) (hN.below jK) (aMT.below jK)) ?_;rintro r1 wc ⟨Iu,mm⟩;have szc:=mm.size;unfold HR at Iu;rw[if_pos Yn.1]at Iu;obtain⟨d1,dv1,rfl,hL1,hd1⟩:=Iu;have aMX:=hd1;obtain⟨_,_,rfl,aM5,aM2⟩:=hd1;have eW:=aM5.shape;obtain⟨Ys,Yt,rfl,_⟩:=eW;have eW:=aM2.shape;obtain⟨ia1,WY,rfl,_⟩:=eW;push_cast -dsimp;refine ag (z:=[.slice none 0 0,.slice none 0 0]) (by kernel_rfl) ?_;intro wd lG;have szd:=lG.size;push_cast -dsimp;refine aJ (n:=2) (by kernel_rfl) lG.aN rfl (by simp) (by simp[Value.oneCell']) ?_;intro we nK;have O1:=nK.size;have ke:Below wc.heap.size wc we:=lG.below.trans (nK.kept.below (by omega) (λ_ h=>by omega));have Vp:Below wx.heap.size wx we:=kb.trans ((mm.mono (by omega)).trans (ke.mono (by omega)));have sg:Below w.heap.size w we:=bT.trans (Vp.mono (by omega));have hXe:aM we wx.heap.size 139 _:=(HD.below mm (by omega)).below ke (by omega);have hDe:aM we wc.heap.size 70 [.slice Ys d1.sets.length Yt,.slice ia1 d1.ins.length WY]:=nK.aN
   have e2:aB we ⟨wx.heap.size,3,none⟩ 0 2=some [.slice x2 r.after.sets.length y2,.slice a2 r.after.ins.length k2]:=rH (n:=2) hXe 3 rfl rfl;push_cast -dsimp[e2];refine aA (LP r.after Qd.2.1 (by omega) (by omega) X _ we (λb h=>by have:=hXw b h;omega) (hN.below sg) (aMU.below sg)) ?_;rintro r2 wf ⟨vx,Vi⟩;have szf:=Vi.size;unfold HR at vx;rw[if_pos Yn.2]at vx;obtain⟨d2,dv2,rfl,hL2,hd2⟩:=vx;have aMZ:=hd2;obtain⟨_,_,rfl,aM6,aM3⟩:=hd2;have eW:=aM6.shape;obtain⟨Jo,Jp,rfl,_⟩:=eW;have eW:=aM3.shape;obtain⟨ia2,WZ,rfl,_⟩:=eW;push_cast -dsimp;refine ag (z:=[.slice none 0 0,.slice none 0 0]) (by kernel_rfl) ?_;intro wg nk;have szg:=nk.size;push_cast -dsimp;refine aJ (n:=2) (by kernel_rfl) nk.aN rfl (by simp) (by simp[Value.oneCell']) ?_;intro wh hwh;have szh:=hwh.size;have kh:Below wf.heap.size wf wh:=nk.below.trans (hwh.kept.below (by omega) (λ_ h=>by omega));have QN:Below wx.heap.size wx wh:=Vp.trans ((Vi.mono (by omega)).trans (kh.mono (by omega)));have hXh:aM wh wx.heap.size 139 _:=(hXe.below Vi (by omega)).below kh (by omega);have hDh:aM wh wc.heap.size 70 _:=(hDe.below Vi (by omega)).below kh (by omega);have Zv:aM wh wf.heap.size 70 [.slice Jo d2.sets.length Jp,.slice ia2 d2.ins.length WZ]:=hwh.aN;have aIT:cW X wh _ d1:=((aMX.below ke).below Vi).below kh;have aIU:cW X wh _ d2:=aMZ.below kh;have q1:aB wh ⟨wc.heap.size,0,none⟩ 0 2=some [.slice Ys d1.sets.length Yt,.slice ia1 d1.ins.length WY]:=hDh.aB;push_cast -dsimp[q1]
   have hLP:fk r ⟨r.brk,d1,d2⟩:=⟨rfl,CR.of Yn.1,CR.of Yn.2,hL1,hL2⟩;refine aA (Ud d1 hL1.cr _ _ wh aIT) ?_;rintro _ wi ⟨rfl,HE⟩;have szi:=HE.size;have aIP:=QN.trans (HE.mono (by omega));cases aM0:nB d1 with
   | true =>
    push_cast -dsimp;have vh:Below wx.heap.size wx wi:=aIP;have aOR:=vh.size;exact⟨⟨by omega,by omega⟩,⟨k+1,out,us,ov,rfl,by omega,hP.gone hx hLP (.inl aM0),hWx.below vh (by omega),kB.aI (Kept.aO vh (X:=λ_=>False) (λk hk hl=>by omega)) (λ_ _ h=>h),su,λi s h=>by
     obtain⟨u,h1,h2⟩:=WV i s h;exact⟨u,h1,h2.below vh⟩,yj.below vh (by omega),bT.trans (vh.mono (by omega)),by omega⟩,by rw[h22];simp only[intOf];omega⟩
   | false =>
    have Yb:=Zv.below HE (by omega);have hDi:=hDh.below HE (by omega);have hXi:=hXh.below HE (by omega);have q2:aB wi ⟨wf.heap.size,0,none⟩ 0 2=some [.slice Jo d2.sets.length Jp,.slice ia2 d2.ins.length WZ]:=Yb.aB;push_cast -dsimp[q2];refine aA (Ud d2 hL2.cr _ _ wi (aIU.below HE)) ?_;rintro _ wj ⟨rfl,QK⟩;have szj:=QK.size;have QO:=aIP.trans (QK.mono (by omega));cases aM1:nB d2 with
    | true =>
     push_cast -dsimp;have vh:Below wx.heap.size wx wj:=QO;have aOR:=vh.size;exact⟨⟨by omega,by omega⟩,⟨k+1,out,us,ov,rfl,by omega,hP.gone hx hLP (.inr aM1),hWx.below vh (by omega),kB.aI (Kept.aO vh (X:=λ_=>False) (λk hk hl=>by omega)) (λ_ _ h=>h),su,λi s h=>by
      obtain⟨u,h1,h2⟩:=WV i s h;exact⟨u,h1,h2.below vh⟩,yj.below vh (by omega),bT.trans (vh.mono (by omega)),by omega⟩,by rw[h22];simp only[intOf];omega⟩
    | false =>
     have hFj:=Yb.below QK (by omega);have hDj:=hDi.below QK (by omega);have hXj:=hXi.below QK (by omega);have hWj:=hWx.below QO (by omega);have hRj:=yj.below QO (by omega);have aIV:=(aIT.below HE).below QK;have aIX:=(aIU.below HE).below QK;have z1:wj.cell? ⟨w3.heap.size,0,none⟩=some ov:=hWj.cell rfl;have z2:wj.cell? ⟨wx.heap.size,0,none⟩=some (.bool r.brk):=hXj.cell rfl;have z3:aB wj ⟨wc.heap.size,0,none⟩ 0 2=some [.slice Ys d1.sets.length Yt,.slice ia1 d1.ins.length WY]:=hDj.aB;have z4:aB wj ⟨wf.heap.size,0,none⟩ 0 2=some [.slice Jo d2.sets.length Jp,.slice ia2 d2.ins.length WZ]:=hFj.aB;have hos:=kB.slice;obtain⟨oa,oc,Nc⟩:=hos;rw[Nc]at z1;push_cast -dsimp[z1,z2,z3,z4];refine cT FI rfl rfl (by omega) ?_;intro wk hwk;have szk:=hwk.size;have qR:=kB.aI (Kept.aO QO (X:=λ_=>False) (λk hk hl=>by omega)) (λ_ _ h=>h);rw[Nc]at qR;push_cast -dsimp;refine aS (base:=w5.heap.size) [⟨r.brk,⟨Ys,d1.sets.length,Yt⟩,⟨ia1,d1.ins.length,WY⟩,⟨Jo,d2.sets.length,Jp⟩,⟨ia2,d2.ins.length,WZ⟩⟩] (enc:=nC) FI (qR.new hwk) (by rfl) (λj u hu=>by simpa[nC,SV.v] using hwk.cell hu) D1 (by have:=hP.len;simp only[List.length_cons,List.length_nil];omega) (by omega) ?_;intro vl wl Q9 hgl hnl;have aE2:=Q9.slice;obtain⟨la,lc,rfl⟩:=aE2;have uD:∀g,(Value.slice oa us.length oc).ownBlock=some g->w5.heap.size<=g/\g<wx.heap.size:=λg hg=>kB.block g (by rw[Nc];exact hg);have hXo:∀g,(Value.slice oa us.length oc).ownBlock=some g->X g:=λg hg=>by rw[hX,Nc];exact .inr (.inr hg)
     have kO:Kept (λj=>(Value.slice oa us.length oc).ownBlock=some j) wj wl:=(Kept.new hwk).trans (Kept.grown hgl (λ_ h=>h)) (λ_ _ h=>h);have szl:=kO.size;have hWl:=hWj.kept kO (λh=>by have:=uD _ h;omega);have hRl:=hRj.kept kO (λh=>by have:=uD _ h;omega);have hDl:=hDj.kept kO (λh=>by have:=uD _ h;omega);have hFl:=hFj.kept kO (λh=>by have:=uD _ h;omega);push_cast -dsimp;refine aC hWl (by simp) rfl ?_;intro wm hwm;have szm:wm.heap.size=wl.heap.size:=hwm.size;have hRm:=hRl.kept hwm.kept (by omega);have hDm:=hDl.kept hwm.kept (by omega);have hFm:=hFl.kept hwm.kept (by omega);have kX:Kept X wj wm:=(kO.weaken (Y:=X) (λg _ h=>hXo g h)).trans hwm.kept (λg _ h=>by rw[hX];exact .inr (.inl h));have aQj:=hL1.cr.one;have aQk:=hL2.cr.one;have hg:=au (l:=d1.ins) (i:=0) (by omega);obtain⟨y1,hy1,_,_⟩:=hg;have hg:=au (l:=d2.ins) (i:=0) (by omega);obtain⟨y2,hy2,_,_⟩:=hg;have aIW:=aIV;have aIY:=aIX;obtain⟨_,_,he,_,aNs⟩:=aIV;cases he;obtain⟨_,_,he,_,aNt⟩:=aIX;cases he;have hg:=aNs.get hy1;obtain⟨b1,o1,rfl,aNQ,QP⟩:=hg;have hg:=aNt.get hy2;obtain⟨b2,o2,rfl,aNR,yM⟩:=hg;have t1:wm.cell? ⟨wc.heap.size,1,none⟩=some (.slice (some ⟨b1,o1,none⟩) d1.ins.length WY):=hDm.cell rfl;have t2:wm.cell? ⟨wf.heap.size,1,none⟩=some (.slice (some ⟨b2,o2,none⟩) d2.ins.length WZ):=hFm.cell rfl;have t3:wm.cell? ⟨b1,o1,none⟩=some (.int .i64 y1.op):=kX.cell (by have:=QP 0 _ rfl;simpa using this) aNQ;have t4:wm.cell? ⟨b2,o2,none⟩=some (.int .i64 y2.op):=kX.cell (by have:=yM 0 _ rfl;simpa using this) aNR
     have aFg:tS d1=decide (y1.op=5):=by unfold tS;rw[hy1]
     have aFh:tS d2=decide (y2.op=5):=by unfold tS;rw[hy2]
     have conv:∀cs s,fF X wj cs s->fF (λb=>b=w1.heap.size\/b=w3.heap.size\/(Value.slice la (us++[(⟨r.brk,⟨Ys,d1.sets.length,Yt⟩,⟨some ⟨b1,o1,none⟩,d1.ins.length,WY⟩,⟨Jo,d2.sets.length,Jp⟩,⟨some ⟨b2,o2,none⟩,d2.ins.length,WZ⟩⟩:PV)]).length lc).ownBlock=some b) wm cs s:=λcs s h=>by
      refine(h.narrow (X':=λb=>X b\/(Value.slice la (us++[(⟨r.brk,⟨Ys,d1.sets.length,Yt⟩,⟨some ⟨b1,o1,none⟩,d1.ins.length,WY⟩,⟨Jo,d2.sets.length,Jp⟩,⟨some ⟨b2,o2,none⟩,d2.ins.length,WZ⟩⟩:PV)]).length lc).ownBlock=some b) (λb hb hh=>?_)).mono (λb jh aw=>kX.block b aw (λhh=>jh (.inl hh))) (λb hh=>?_)
      ·rcases hh with hh|hh
       ·exact hh
       rcases hnl b hh with h1|h1
       ·exact hXo b h1
       omega
      rcases hh with hh|hh|hh
      ·left;rw[hX];exact .inl hh
      ·left;rw[hX];exact .inr (.inl hh)
      exact .inr hh
     have hum:=Kv (Pr:=λ_ u s=>fF (λb=>b=w1.heap.size\/b=w3.heap.size\/(Value.slice la (us++[(⟨r.brk,⟨Ys,d1.sets.length,Yt⟩,⟨some ⟨b1,o1,none⟩,d1.ins.length,WY⟩,⟨Jo,d2.sets.length,Jp⟩,⟨some ⟨b2,o2,none⟩,d2.ins.length,WZ⟩⟩:PV)]).length lc).ownBlock=some b) wm (nC u) s) su (λi s h=>by
      obtain⟨u,h1,h2⟩:=huX i s h;exact⟨u,h1,conv _ _ (h2.below QO)⟩) (u:=⟨r.brk,⟨Ys,d1.sets.length,Yt⟩,⟨some ⟨b1,o1,none⟩,d1.ins.length,WY⟩,⟨Jo,d2.sets.length,Jp⟩,⟨some ⟨b2,o2,none⟩,d2.ins.length,WZ⟩⟩) (x:=⟨r.brk,d1,d2⟩) (conv _ _ ⟨_,_,_,_,rfl,aIW,aIY⟩)
     have hom:=Q9.aI hwm.kept (λg hg h=>by have:=(Q9.block g hg).1;omega);have WT:(us++[(⟨r.brk,⟨Ys,d1.sets.length,Yt⟩,⟨some ⟨b1,o1,none⟩,d1.ins.length,WY⟩,⟨Jo,d2.sets.length,Jp⟩,⟨some ⟨b2,o2,none⟩,d2.ins.length,WZ⟩⟩:PV)]).length=(out++[(⟨r.brk,d1,d2⟩:bg)]).length:=by simp[su]
     have hWm:=hwm.aN;have Vn:Below w.heap.size w wm:=(bT.trans (QO.mono (by omega))).trans (kX.below (by omega) (λb h=>(hXw b h).1));push_cast -dsimp[t1,t2,t3,t4];refine⟨by omega,λg1=>⟨by omega,λg2=>?_,λg2=>?_⟩,λg1=>?_⟩
     ·have hPL:=hP.last hx hLP (by rw[aFg];exact decide_eq_true g1) (by rw[aFh];exact decide_eq_true g2);have qf:=hWm.aB;simp only[List.length_cons,List.length_nil,Nat.zero_add,Nat.reduceAdd,List.set_cons_zero,List.set_cons_succ]at qf;push_cast -dsimp[qf];refine aJ (n:=2) (by kernel_rfl) hRm rfl (by simp) (by simp[Value.oneCell']) ?_;intro wq Lq;have szq:=Lq.size;have qc:aB wq ⟨w1.heap.size,0,none⟩ 0 2=some [.slice la (us++[(⟨r.brk,⟨Ys,d1.sets.length,Yt⟩,⟨some ⟨b1,o1,none⟩,d1.ins.length,WY⟩,⟨Jo,d2.sets.length,Jp⟩,⟨some ⟨b2,o2,none⟩,d2.ins.length,WZ⟩⟩:PV)]).length lc,.bool p.els]:=Lq.aN.aB;push_cast -dsimp[qc,if_true];have qS:=G9 (R:=fF (λ_=>False) wq) (hom.aI Lq.kept (λg hg h=>by have:=(hom.block g hg).1;omega)) WT (λi s h=>by
       obtain⟨u,h1,h2⟩:=hum i s h;exact⟨u,h1,h2.mono (λb jh aw=>Lq.kept.block b aw (λhh=>jh (.inl hh))) (λ_ h=>h.elim)⟩)
      exact⟨⟨_,_,rfl,hPL,⟨_,rfl,og.mono (X':=λ_=>False) (X:=λ_=>False) (qS.weaken (λ_ h=>h.elim)) (λ_ _ _=>rfl) (λ_ h=>h)⟩⟩,Vn.trans (Lq.kept.below (by omega) (λ_ h=>by omega))⟩
     ·exact⟨⟨by omega,by omega⟩,⟨k+1,_,_,_,rfl,by omega,hP.more hx hLP (by rw[aFg,aFh];simp[g2]),hWm,hom,WT,hum,hRm,Vn,by omega⟩,by rw[h22];simp only[intOf];omega⟩
     exact⟨⟨by omega,by omega⟩,⟨k+1,_,_,_,rfl,by omega,hP.more hx hLP (by rw[aFg,aFh];simp[g1]),hWm,hom,WT,hum,hRm,Vn,by omega⟩,by rw[h22];simp only[intOf];omega⟩
  have De:k=p.rules.length:=by omega
  have hPL:=hP.done De;have hos:=kB.slice;obtain⟨oa,oc,rfl⟩:=hos;have hWm:=hWx;have hRm:=yj;have hom:=kB;have WT:=su;have hum:=WV;have Vn:=bT;have qf:=hWm.aB;simp only[List.length_cons,List.length_nil,Nat.zero_add,Nat.reduceAdd,List.set_cons_zero,List.set_cons_succ]at qf;push_cast -dsimp[qf];refine aJ (n:=2) (by kernel_rfl) hRm rfl (by simp) (by simp[Value.oneCell']) ?_;intro wq Lq;have szq:=Lq.size;have qc:aB wq ⟨w1.heap.size,0,none⟩ 0 2=some [.slice oa us.length oc,.bool p.els]:=Lq.aN.aB;push_cast -dsimp[qc,if_true];have qS:=G9 (R:=fF (λ_=>False) wq) (hom.aI Lq.kept (λg hg h=>by have:=(hom.block g hg).1;omega)) WT (λi s h=>by
   obtain⟨u,h1,h2⟩:=hum i s h;exact⟨u,h1,h2.mono (λb jh aw=>Lq.kept.block b aw (λhh=>jh (.inl hh))) (λ_ h=>h.elim)⟩)
  exact⟨⟨_,_,rfl,hPL,⟨_,rfl,og.mono (X':=λ_=>False) (X:=λ_=>False) (qS.weaken (λ_ h=>h.elim)) (λ_ _ _=>rfl) (λ_ h=>h)⟩⟩,Vn.trans (Lq.kept.below (by omega) (λ_ h=>by omega))⟩
def GM:aD:=⟨[],[⟨3,2,0⟩,⟨5,0,0⟩,⟨5,0,0⟩]⟩
theorem GN:ab GM=true:=by decide
theorem MF (w:World)(hN:kI w):bE Tryz.prog 35 [] w λr w'=>r=.bool true/\Below w.heap.size w w':=by
 refine aE Tryz.func35 rfl (by kernel_rfl) [0] rfl ?_;push_cast -dsimp(maxSteps:=4000000) [Tryz.ntmps35];push_cast -dsimp;refine cT gj rfl rfl (by omega) ?_;intro w1 aZ;have sM:=aZ.size;push_cast -dsimp;refine ag (z:=[.slice none 0 0,.slice none 0 0]) (by kernel_rfl) ?_;intro w2 bw;have HQ:=bw.size;push_cast -dsimp;refine aJ (n:=2) (by kernel_rfl) bw.aN rfl (by simp) (by simp[Value.oneCell']) ?_;intro w3 dZ;have TJ:=dZ.size;have k3:Below w1.heap.size w1 w3:=bw.below.trans (dZ.kept.below (by omega) (λ_ h=>by omega));have fL:Below w.heap.size w w3:=aZ.below.trans (k3.mono (by omega));have d3:aB w3 ⟨w1.heap.size,0,none⟩ 0 2=some [.slice none 0 0,.slice (some ⟨w.heap.size,0,none⟩) 3 3]:=dZ.aN.aB;have ho:=aZ.own (base:=0) (k:=3) (n:=3) (enc:=bV) (l:=GM.ins) rfl rfl (λ_=>rfl) (Nat.zero_le _) (by omega);have Sx:cW (λ_=>False) w3 (.agg #[.slice none 0 0,.slice (some ⟨w.heap.size,0,none⟩) 3 3]) GM :=
  ⟨_,_,rfl,Sl.nil _ _ _ _ _ _,(ho.sl.below k3).weaken λ_ h=>h.elim⟩
 push_cast -dsimp[d3];refine aA (LP GM (λs hs=>by cases hs) (by decide) (by decide) (λ_=>False) _ w3 (λ_ h=>h.elim) (hN.below fL) Sx) ?_;rintro r w4 ⟨hr,kj⟩;have Yu:=kj.size;unfold HR at hr;rw[if_pos GN]at hr;obtain⟨d,dv,rfl,hL,hd⟩:=hr;have hd0:=hd;obtain⟨dsv,div,rfl,hds,hdi⟩:=hd;have eW:=hds.shape;obtain⟨da,dc,rfl,_⟩:=eW;have eW:=hdi.shape;obtain⟨ia,ic,rfl,_⟩:=eW;push_cast -dsimp;refine ag (z:=[.slice none 0 0,.slice none 0 0]) (by kernel_rfl) ?_;intro w5 cO;have SX:=cO.size;push_cast -dsimp;refine aJ (n:=2) (by kernel_rfl) cO.aN rfl (by simp) (by simp[Value.oneCell']) ?_;intro w6 bZ;have Mm:=bZ.size;have k6:Below w4.heap.size w4 w6:=cO.below.trans (bZ.kept.below (by omega) (λ_ h=>by omega));have yI:aM w6 w4.heap.size 70 [.slice da d.sets.length dc,.slice ia d.ins.length ic]:=bZ.aN;have d6:=yI.aB;simp only[List.length_cons,List.length_nil,Nat.zero_add,Nat.reduceAdd]at d6;have lp:Below w.heap.size w w6:=fL.trans ((kj.mono (by omega)).trans (k6.mono (by omega)));have hdm:=hL.cr.many;have aST:=hL.cr.sets;push_cast -dsimp[d6];refine aA (mr d hL.lens (by omega) (by omega) _ _ w6 (hd0.below k6)) ?_;rintro _ w7 ⟨rfl,nw⟩;have Mn:=nw.size;rw[hL.cr.to];have c7:w7.cell? ⟨w4.heap.size,1,none⟩=some (.slice ia d.ins.length ic):=(yI.below nw (by omega)).cell rfl;have hlen:d.ins.length<=3:=hL.len;have hle:decide ((d.ins.length:Int)<=3)=true:=decide_eq_true (by omega);push_cast -dsimp[c7,hle];exact lp.trans (nw.mono (by omega))
theorem Jw {n:Nat}:∀{l:List bg},(∀r∈l,r.before.ins.length<=n/\r.after.ins.length<=n)->cg l<=l.length*(n+n)
 | [],_=>by simp[cg]
 | r::l,h=>by
  have h1:=h r (List.mem_cons_self ..);have h2:=Jw (l:=l) λx hx=>h x (List.mem_cons_of_mem _ hx);rw[cg,List.length_cons,Nat.add_mul,Nat.one_mul];omega
theorem kl.aDd {has:ao->Int->Prop}{f:dw}{p:dX}(h:kl has f p):∀r∈p.rules,∃q∈f.rules,dh has true q.before r.before/\dh has false q.after r.after:=by
 have key:∀{l:List bg} {m:List cD},cU (λ(r:bg) (q:cD)=>r.brk=q.brk/\dh has true q.before r.before/\dh has false q.after r.after) l m->∀r∈l,∃q∈m,dh has true q.before r.before/\dh has false q.after r.after:=by
  intro l m h;induction h with
  | nil=>intro r hr;cases hr
  | cons h1 _ ih =>
   intro r hr;rcases List.mem_cons.1 hr with rfl|hr
   ·exact⟨_,List.mem_cons_self ..,h1.2⟩
   obtain⟨q,hq,h⟩:=ih r hr;exact⟨q,List.mem_cons_of_mem _ hq,h⟩
 exact key h.2
theorem kl.aOH {has:ao->Int->Prop}{f:dw}{p:dX}(h:kl has f p)(hl:f.rules.length<=20):td p/\cg p.rules<=80000:=by
 have hlen:=cU.len h.2;refine⟨⟨by omega,λr hr=>?_⟩,?_⟩
 ·obtain⟨q,hq,h1,h2⟩:=kl.aDd h r hr;exact⟨dh.lens h1,dh.lens h2⟩
 have h1:=Jw (n:=2000) (l:=p.rules) λr hr=>by
  obtain⟨q,hq,h1,h2⟩:=kl.aDd h r hr;exact⟨h1.aBh,h2.aBh⟩
 have h2:p.rules.length*(2000+2000)<=20*4000:=Nat.mul_le_mul (by omega) (by omega);omega
theorem MZ (s t:List UInt8)(w:World)(hv:Vl w)(hN:kI w):bE Tryz.prog 7 [str s,str t] w λr w'=>r=.bool true/\Below w.heap.size w w':=by
 refine aE Tryz.func7 rfl (by kernel_rfl) [4] rfl ?_;push_cast -dsimp(maxSteps:=4000000) [Tryz.ntmps7];refine⟨λaJi=>Below.refl _ _,λLj=>?_⟩;refine aA (MF w hN) ?_;rintro _ w1 ⟨rfl,gX⟩;have z1:=gX.size;have Yp:=hv.below gX;push_cast -dsimp;refine aA (Xs s w1 Yp.d Yp.e Yp.g) ?_;rintro _ w2 ⟨⟨a1,n1,k1,a2,n2,k2,e,b,rfl,aE8⟩,eR⟩;have z2:=eR.size;have fo:=gX.trans (eR.mono z1);push_cast -dsimp;refine ag (z:=[.slice none 0 0,.slice none 0 0,.bool false]) (by kernel_rfl) ?_;intro w3 dZ;have z3:=dZ.size;push_cast -dsimp;refine aJ (n:=3) (by kernel_rfl) dZ.aN rfl (by simp) ZX ?_;intro w4 az;have z4:=az.size;have B4:aM w4 w2.heap.size 26 [.slice a1 n1 k1,.slice a2 n2 k2,.bool e]:=az.aN;have Cn:Below w2.heap.size w2 w4:=dZ.below.trans (az.kept.below (by omega) (λi h=>by omega));have j0:=fo.trans (Cn.mono (by omega));have hv4:=hv.below j0;have d4:aB w4 ⟨w2.heap.size,0,none⟩ 0 3=some [.slice a1 n1 k1,.slice a2 n2 k2,.bool e]:=B4.aB;cases b with
 | false =>
  push_cast -dsimp;exact j0
 | true =>
  obtain⟨hs5,f,GC,lA,hV⟩:=aE8 rfl;have hpo:=J8 (by omega) GC;have hpp:=J9 GC (by omega);have dD:=XZ (by omega) GC;have hV4:=hV.below Cn;obtain⟨cv,rv,cs,rs,D6,S1,S2,A1,A2⟩:=hV;have aOb:=S1.shape;obtain⟨_,_,rfl,hcc⟩:=aOb;have aOc:=S2.shape;obtain⟨_,_,rfl,hrc⟩:=aOc;simp only[Value.agg.injEq,Array.mk.injEq,List.cons.injEq,Value.slice.injEq,Value.bool.injEq,and_true]at D6;obtain⟨⟨rfl,rfl,rfl⟩,⟨rfl,rfl,rfl⟩,rfl⟩:=D6;have Qd:=cU.len A2;have CT:=hv4.l;push_cast -dsimp[d4];refine aA (Oq f hpo.1 hpp dD (by omega) (by omega) _ _ w4 hV4) ?_;rintro _ w5 ⟨hC,ng⟩;have z5:=ng.size;unfold rm at hC;rw[lA]at hC;have vg:=j0.trans (ng.mono (by omega));rcases hC with ⟨nm,p,pv,o8,rfl,hPV,hPO⟩|⟨q,hq,hlen,ev,rfl,hE5⟩
  ·have hlen:=cU.len hPO.2;obtain⟨hPL,hPs⟩:=kl.aOH hPO (by omega);have hPR:=kl.right hPO (by omega);have aIh:nz (λ_=>False) w5 pv p:=hPV.mono (λ_ _ _=>rfl) (λ_ h=>h.elim);have aMd:=aIh;obtain⟨pr,rfl,xU⟩:=aMd;have eW:=xU.shape;obtain⟨pa,pc,rfl,uR⟩:=eW;push_cast -dsimp;refine ag (z:=[.slice none 0 0,.bool false]) (by kernel_rfl) ?_;intro w6 bZ;have z6:=bZ.size;push_cast -dsimp;refine aJ (n:=2) (by kernel_rfl) bZ.aN rfl (by simp) (by simp[Value.oneCell']) ?_;intro w7 fh;have z7:=fh.size;have Vg:Below w5.heap.size w5 w7:=bZ.below.trans (fh.kept.below (by omega) (λi h=>by omega));have P7:aM w7 w5.heap.size 79 [.slice pa p.rules.length pc,.bool p.els]:=fh.aN;have p7:aB w7 ⟨w5.heap.size,0,none⟩ 0 2=some [.slice pa p.rules.length pc,.bool p.els]:=P7.aB;have jL:=vg.trans (Vg.mono (by omega));have aIi:=aIh.below Vg;push_cast -dsimp[p7];refine aA (EE p hPL _ w7 (hN.below jL) aIi) ?_;rintro _ w8 ⟨hr,jg⟩;have z8:=jg.size;unfold yZ at hr;rw[if_pos hPR]at hr;obtain⟨mq,qv,rfl,nG,hq⟩:=hr;have hq0:=hq;obtain⟨qr,rfl,hqr⟩:=hq;have eW:=hqr.shape;obtain⟨qa,qc,rfl,_⟩:=eW;have hQR:=nG.right' hPR p.els;have hQL:=nG.lens (by omega) p.els;have Q9:=nG.len;have hos:=nG.size;push_cast -dsimp;refine ag (z:=[.slice none 0 0,.bool false]) (by kernel_rfl) ?_;intro w9 Ng;have z9:=Ng.size;push_cast -dsimp;refine aJ (n:=2) (by kernel_rfl) Ng.aN rfl (by simp) (by simp[Value.oneCell']) ?_;intro wA hwA;have zA:=hwA.size
   have aEn:Below w8.heap.size w8 wA:=Ng.below.trans (hwA.kept.below (by omega) (λi h=>by omega));have QA:aM wA w8.heap.size 79 [.slice qa mq.length qc,.bool p.els]:=hwA.aN;have qA:aB wA ⟨w8.heap.size,0,none⟩ 0 2=some [.slice qa mq.length qc,.bool p.els]:=QA.aB;have aEt:=jL.trans ((jg.mono (by have:=jL.size;omega)).trans (aEn.mono (by have:=jL.size;omega)));have hqA:=hq0.below aEn;push_cast -dsimp[qA];refine aA (EE ⟨mq,p.els⟩ hQL _ wA (hN.below aEt) hqA) ?_;rintro _ wB ⟨hr,D8⟩;have zB:=D8.size;unfold yZ at hr;rw[if_pos hQR]at hr;obtain⟨ur,rv2,rfl,Ye,vx⟩:=hr;have Nf:=vx;obtain⟨rr,rfl,Yn⟩:=vx;have eW:=Yn.shape;obtain⟨ra,rc,rfl,_⟩:=eW;have hRR:=Ye.right' hQR p.els;have hRL:=Ye.lens (show mq.length<1000000000 by omega) p.els
   have Qa:ur.length<=mq.length:=Ye.len;have aTu:cg ur<=cg mq:=Ye.size;push_cast -dsimp;refine ag (z:=[.slice none 0 0,.bool false]) (by kernel_rfl) ?_;intro wC hwC;have zC:=hwC.size;push_cast -dsimp;refine aJ (n:=2) (by kernel_rfl) hwC.aN rfl (by simp) (by simp[Value.oneCell']) ?_;intro wD hwD;have zD:=hwD.size;have aIF:Below wB.heap.size wB wD:=hwC.below.trans (hwD.kept.below (by omega) (λi h=>by omega));have RD:aM wD wB.heap.size 79 [.slice ra ur.length rc,.bool p.els]:=hwD.aN;have aAk:=D8.trans (aIF.mono (by omega));have QD:=QA.below aAk (by omega);have aEm:=jg.trans ((aEn.mono (by omega)).trans (aAk.mono (by omega)));have PD:=P7.below aEm (by omega);push_cast -dsimp;have gp:∀y:World,aM y w5.heap.size 79 [.slice pa p.rules.length pc,.bool p.els]->aB y ⟨w5.heap.size,0,none⟩ 0 2=some [.slice pa p.rules.length pc,.bool p.els]:=λy h=>h.aB;have gq:∀y:World,aM y w8.heap.size 79 [.slice qa mq.length qc,.bool p.els]->aB y ⟨w8.heap.size,0,none⟩ 0 2=some [.slice qa mq.length qc,.bool p.els]:=λy h=>h.aB;have gr:∀y:World,aM y wB.heap.size 79 [.slice ra ur.length rc,.bool p.els]->aB y ⟨wB.heap.size,0,none⟩ 0 2=some [.slice ra ur.length rc,.bool p.els]:=λy h=>h.aB;have zDd:wD.drew.heap.size=wD.heap.size:=rfl;have hdD:=bl wD;have hpD:=aIi.below aEm;have hqD:=hqA.below aAk;have hrD:=Nf.below aIF;have I9:=aEt.trans (aAk.mono (by have:=aEt.size;omega))
   have keep:∀y,Below wD.heap.size wD y->aM y w5.heap.size 79 [.slice pa p.rules.length pc,.bool p.els]/\aM y w8.heap.size 79 [.slice qa mq.length qc,.bool p.els]/\aM y wB.heap.size 79 [.slice ra ur.length rc,.bool p.els]:=λy hy=>⟨PD.below hy (by omega),QD.below hy (by omega),RD.below hy (by omega)⟩;refine bx (λy=>aM y w5.heap.size 79 [.slice pa p.rules.length pc,.bool p.els]/\aM y w8.heap.size 79 [.slice qa mq.length qc,.bool p.els]/\aM y wB.heap.size 79 [.slice ra ur.length rc,.bool p.els]) mixed (by kernel_rfl) (keep _ hdD) ?_;have e1:=gq _ (keep _ hdD).2.1;push_cast -dsimp[e1];refine⟨λy h=>by rw[gq y h.2.1];exact rfl,?_⟩;refine aA (zH ⟨mq,p.els⟩ (show mq.length<1000000 by omega) (show cg mq<1000000000 by omega) _ _ wD.drew (hqD.below hdD)) ?_
   rintro _ y1 ⟨rfl,n1⟩;have b1:Below wD.heap.size wD y1:=hdD.trans (n1.mono (Nat.le_refl _));have s1:=b1.size;refine⟨keep _ b1,?_⟩;have e2:=gp _ (keep _ b1).1;push_cast -dsimp[e2];refine⟨λy h=>by rw[gp y h.1];exact rfl,?_⟩;refine aA (zH p (by omega) (by omega) _ _ y1 (hpD.below b1)) ?_;rintro _ y2 ⟨rfl,n2⟩;have b2:Below wD.heap.size wD y2:=b1.trans (n2.mono s1);have s2:=b2.size;refine⟨keep _ b2,?_⟩;have aND:decide ((cg mq:Int)>(cg p.rules:Int))=false:=decide_eq_false (by omega);have e3:=gr _ (keep _ b2).2.2;have e4:=gq _ (keep _ b2).2.1;push_cast -dsimp[aND,e3,e4];refine⟨λy h=>by rw[gr y h.2.2];exact rfl,?_⟩;refine aA (zH ⟨ur,p.els⟩ (show ur.length<1000000 by omega) (show cg ur<1000000000 by omega) _ _ y2 (hrD.below b2)) ?_
   rintro _ y3 ⟨rfl,n3⟩;have b3:Below wD.heap.size wD y3:=b2.trans (n3.mono s2);have s3:=b3.size;refine⟨keep _ b3,?_⟩;have e5:=gq _ (keep _ b3).2.1;push_cast -dsimp[e5];refine⟨λy h=>by rw[gq y h.2.1];exact rfl,?_⟩;refine aA (zH ⟨mq,p.els⟩ (show mq.length<1000000 by omega) (show cg mq<1000000000 by omega) _ _ y3 (hqD.below b3)) ?_
   rintro _ y4 ⟨rfl,n4⟩;have b4:Below wD.heap.size wD y4:=b3.trans (n4.mono s3);have s4:=b4.size;refine⟨keep _ b4,?_⟩;have WC:decide ((cg ur:Int)>(cg mq:Int))=false:=decide_eq_false (by omega);push_cast -dsimp[WC];have su:=rB t.length t 0 rfl;have aID:Below w4.heap.size w4 y4:=ng.trans ((Vg.mono (by omega)).trans ((aEm.mono (by omega)).trans (b4.mono (by omega))));have jc:Below w.heap.size w y4:=I9.trans (b4.mono (by have:=I9.size;omega));have Fy:aM y4 w2.heap.size 26 [.slice a1 cs.length k1,.slice a2 rs.length k2,.bool f.els]:=B4.below aID (by omega);have gf:∀y:World,aM y w2.heap.size 26 [.slice a1 cs.length k1,.slice a2 rs.length k2,.bool f.els]->aB y ⟨w2.heap.size,0,none⟩ 0 3=some [.slice a1 cs.length k1,.slice a2 rs.length k2,.bool f.els]:=λy h=>h.aB;refine bx (λy=>aM y w2.heap.size 26 [.slice a1 cs.length k1,.slice a2 rs.length k2,.bool f.els]) mixed (by kernel_rfl) Fy.drew ?_;have ef:=gf _ Fy.drew;push_cast -dsimp[ef];refine⟨λy h=>by rw[gf y h];exact rfl,?_⟩;refine aA (Hj t (by omega) y4.drew ((hv.below jc).l.below (bl y4))) ?_;rintro uv y5 ⟨hU,n5⟩;have s5:y4.heap.size<=y5.heap.size:=n5.size;have b45:Below y4.heap.size y4 y5:=(bl y4).trans (n5.mono (Nat.le_refl _));refine⟨Fy.below b45 (by omega),?_⟩;obtain⟨ua,uc,rfl⟩:=hU.slice;have hV5:jf (λ_=>False) y5 (.agg #[.slice a1 cs.length k1,.slice a2 rs.length k2,.bool f.els]) f:=(hV4.below (aID.trans (b45.mono (by omega)))).mono (Kept.refl (λ_=>False) _) (λ_ h=>h.elim) (λ_ h=>h.elim);push_cast -dsimp
   refine aA (UK f hpo.1 hpp (by omega) (by omega) (jw 0 t) (by omega) (λ_=>False) _ _ y5 hV5 (hU.sl.weaken (λ_ h=>h.elim))) ?_;rintro _ y6 ⟨hA,n6⟩;have s6:=n6.size;unfold TN at hA;rw[lA]at hA;obtain⟨nm',av,aJp,rfl,hAO⟩:=hA;have Ir:nm'=nm:=by
    rw[o8]at aJp;cases aJp;rfl
   subst Ir;obtain⟨aa,ac,rfl⟩:=hAO.slice;have b46:Below y4.heap.size y4 y6:=b45.trans (n6.mono s5);refine⟨Fy.below b46 (by omega),?_⟩;have b6:Below wD.heap.size wD y6:=b4.trans (b46.mono s4);have aIJ:=I9.trans (b6.mono (by have:=I9.size;omega));have Li:(List.map (λu:U=>(u.p:Int)) (jw 0 t)).length<1000000:=by simp;omega
   have vn:jz ⟨mq,p.els⟩ (List.map (λu:U=>(u.p:Int)) (jw 0 t))=jy (bD nm') (bC (jw 0 t)) f.rules f.els:=(Dr nG.M9 _).trans (H4 (aFW t) hpo.1.2 hPO);have mn:jz ⟨ur,p.els⟩ (List.map (λu:U=>(u.p:Int)) (jw 0 t))=jy (bD nm') (bC (jw 0 t)) f.rules f.els:=(Dr (p:=⟨mq,p.els⟩) Ye.M9 _).trans vn;have hlA:(jy (bD nm') (bC (jw 0 t)) f.rules f.els).length<=100000:=by have:=LC (has:=bD nm') (pts:=bC (jw 0 t)) f.rules f.els;rw[eU]at this;omega
   push_cast -dsimp;refine bx (λy=>aM y w8.heap.size 79 [.slice qa mq.length qc,.bool p.els]) mixed (by kernel_rfl) (keep _ b6).2.1.drew ?_;have e6:=gq _ (keep _ b6).2.1.drew;push_cast -dsimp[e6];refine⟨λy h=>by rw[gq y h];exact rfl,?_⟩;refine aA (Ja t (by omega) y6.drew ((hv.below aIJ).l.below (bl y6))) ?_;rintro pv1 y7 ⟨hQ1,n7⟩;have s7:y6.heap.size<=y7.heap.size:=n7.size;have b67:Below y6.heap.size y6 y7:=(bl y6).trans (n7.mono (Nat.le_refl _));have b7:Below wD.heap.size wD y7:=b6.trans (b67.mono b6.size);refine⟨(keep _ b7).2.1,?_⟩;have aMh:Arg pv1:=hQ1.dR;obtain⟨qa1,qc1,rfl⟩:=hQ1.slice;push_cast -dsimp;refine aA (Bx ⟨mq,p.els⟩ (List.map (λu:U=>(u.p:Int)) (jw 0 t)) hQL Li _ _ _ _ y7 (hqD.below b7) hQ1.sl aMh) ?_;rintro _ y8 ⟨nF,n8⟩;have s8:=n8.size;rw[if_pos hQR]at nF;obtain⟨bv1,rfl,aDS⟩:=nF;rw[vn]at aDS;obtain⟨ba1,bc1,rfl⟩:=aDS.slice;have b8:Below wD.heap.size wD y8:=b7.trans (n8.mono b7.size);refine⟨(keep _ b8).2.1,?_⟩;have aIK:=I9.trans (b8.mono (by have:=I9.size;omega));push_cast -dsimp;refine bx (λy=>aM y wB.heap.size 79 [.slice ra ur.length rc,.bool p.els]) mixed (by kernel_rfl) (keep _ b8).2.2.drew ?_;have e8:=gr _ (keep _ b8).2.2.drew;push_cast -dsimp[e8];refine⟨λy h=>by rw[gr y h];exact rfl,?_⟩;refine aA (Ja t (by omega) y8.drew ((hv.below aIK).l.below (bl y8))) ?_;rintro pv2 y9 ⟨hQ2,n9⟩;have s9:y8.heap.size<=y9.heap.size:=n9.size;have b89:Below y8.heap.size y8 y9:=(bl y8).trans (n9.mono (Nat.le_refl _))
   have b9:Below wD.heap.size wD y9:=b8.trans (b89.mono b8.size);refine⟨(keep _ b9).2.2,?_⟩;have aMi:Arg pv2:=hQ2.dR;obtain⟨qa2,qc2,rfl⟩:=hQ2.slice;push_cast -dsimp;refine aA (Bx ⟨ur,p.els⟩ (List.map (λu:U=>(u.p:Int)) (jw 0 t)) hRL Li _ _ _ _ y9 (hrD.below b9) hQ2.sl aMi) ?_;rintro _ ya ⟨iL,na⟩;have sa:=na.size;rw[if_pos hRR]at iL;obtain⟨bv2,rfl,aDT⟩:=iL;rw[mn]at aDT;obtain⟨ba2,bc2,rfl⟩:=aDT.slice;have ba':Below wD.heap.size wD ya:=b9.trans (na.mono b9.size);refine⟨(keep _ ba').2.2,?_⟩;have aHY:=(((hAO.below b67).below n8).below b89).below na;have aH0:=(aDS.below b89).below na;push_cast -dsimp;refine aA (AK _ _ (by omega) _ _ _ _ ya aH0.sl aHY.sl) ?_;rintro _ yb ⟨rfl,nb⟩;rw[decide_eq_true rfl];have aLO:=aHY.below nb;have aH1:=aDT.below nb;push_cast -dsimp;refine aA (AK _ _ (by omega) _ _ _ _ yb aH1.sl aLO.sl) ?_;rintro _ yc ⟨rfl,nc⟩;rw[decide_eq_true rfl];push_cast -dsimp;exact I9.trans ((ba'.trans ((nb.mono ba'.size).trans (nc.mono (by have:=ba'.size;have:=nb.size;omega)))).mono (by have:=I9.size;omega))
  have D8:=QG (by omega) GC hq hlen;obtain⟨eb5,_,rfl,_⟩:=hE5;push_cast -dsimp;refine ag (z:=[.slice none 0 0,.bool false]) (by kernel_rfl) ?_;intro w6 bZ;have z6:=bZ.size;push_cast -dsimp;refine aJ (n:=2) (by kernel_rfl) bZ.aN rfl (by simp) (by simp[Value.oneCell']) ?_;intro w7 fh;have z7:=fh.size;have Vg:Below w5.heap.size w5 w7:=bZ.below.trans (fh.kept.below (by omega) (λi h=>by omega));have jL:=vg.trans (Vg.mono (by omega));push_cast -dsimp;refine aA (Vb s w7 D8.1 (by omega) D8.2) ?_;rintro _ wa ⟨rfl,tT⟩;push_cast -dsimp;exact jL.trans (tT.mono (by have:=jL.size;omega))
end Go.Proofs.YtledlfbbebodgaaGreatDoor
end
