/- Texts of this claim, merged: MnA, Ld6, Plaw, Pagain, Pref, EncP, Refb, Refd, SmI, Ule, Mbr. -/
import Derived.Test.YtodeeahdhnjpkaaGreatDoorM15
set_option maxRecDepth 100000
set_option linter.unusedSimpArgs false
set_option linter.unusedVariables false
set_option maxHeartbeats 8000000
section
namespace Go.Proofs.YtodeeahdhnjpkaaGreatDoor
open Go.Vc Go.Proofs Go.RowKit Cae
attribute [local irreducible] cw ag aq a8 runK bD Sl Vc.Own vc aW cN ai
def Lt (B:Nat)(f:dQ)(us:List U)(r:Value)(w:World):Prop:=match kl f with
 | some e=>∃v,r=.tuple #[.slice none 0 0,v]/\sV B (some e) v w
 | none=>∃nm v,fA [] f.bJ=.ok nm/\r=.tuple #[v,.nilIface]/\Vc.Own B 3 1 br w v (jx (aZ nm) (an us) f.rules f.els)
noncomputable def pK (nm:bP)(us:List U)(rules:List cW)(els:Bool)(i:Nat):List Nat:=(List.range i).filter (Hz (aZ nm) (an us) rules els)
theorem jO (nm:bP)(us:List U)(rules:List cW)(els:Bool)(i:Nat):pK nm us rules els (i+1)=pK nm us rules els i++if Hz (aZ nm) (an us) rules els i then [i] else []:=by
 unfold pK;rw[List.range_succ,List.filter_append];congr 1;by_cases h:Hz (aZ nm) (an us) rules els i=true
 ·rw[if_pos h,List.filter_cons_of_pos h,List.filter_nil]
 rw[if_neg h,List.filter_cons_of_neg h,List.filter_nil]
theorem VW (nm:bP)(us:List U)(rules:List cW)(els:Bool)(i:Nat):(pK nm us rules els i).length<=i:=by
 have:=List.length_filter_le (Hz (aZ nm) (an us) rules els) (List.range i);rw[List.length_range]at this;exact this
theorem gH.qP {X X':Nat->Prop}{w:World}{b:Nat}{nm:bP}(h:gH X w b nm)(hX:∀b,X' b->X b):gH X' w b nm:=by
 obtain⟨gD,h2,h3⟩:=h;exact⟨gD,h2,h3.imp λa b h=>⟨h.1,h.2.1.weaken hX,h.2.2⟩⟩
def jJ (v:Value)(w:World):Nat:=match v with
 | .pointer (some a)=>match w.cell? a with
  | some (.int _ n)=>n.toNat
  | _=>0
 | _=>0
theorem jZ {v:Value}{w:World}{a:Addr}{i:Nat}{k:IntKind}(h:v=.pointer (some a))(hc:w.cell? a=some (.int k i)):jJ v w=i:=by
 subst h;simp only[jJ,hc,Int.toNat_natCast]
theorem I9 {f:dQ}(h:kl f=none):∃nm,fA [] f.bJ=.ok nm:=by
 unfold kl at h;cases hn:fA [] f.bJ with
 | ok nm=>exact⟨nm,rfl⟩
 | error e=>rw[hn]at h;cases h
theorem Qu (f:dQ)(cD:rV f)(jS:QE f)(Ar:f.bJ.length<=1000000)(Zu:f.rules.length<=1000000)(us:List U)(hlen:us.length<=1000)(X:Nat->Prop)(v lv:Value)(w:World)(hv:gn X w v f)(hU:Sl X 3 (En lL) w lv us) :
  bD Tryz.prog 17 [v,lv] w λr w'=>Lt w.heap.size f us r w'/\Below w.heap.size w w':=by
 have X4:=hv;obtain⟨cv,rv,cs,rs,rfl,je,fO,hC,hR⟩:=hv;obtain⟨ca,cc,rfl,Sb⟩:=je.shape;obtain⟨ra,rc,rfl,hrc⟩:=fO.shape;obtain⟨la,lc,rfl,aQo⟩:=hU.shape;have NR:=dd.len hR;refine aE Tryz.func17 rfl (by kernel_rfl) [4,5] rfl ?_;push_cast -dsimp(maxSteps:=4000000) [Tryz.ntmps17];refine ah ?_;intro w1 au;have au:qR w w1 25 [.slice ca cs.length cc,.slice ra rs.length rc,.bool f.els]:=au;have z1:=au.size;push_cast -dsimp;refine ah ?_;intro w2 bT;have bT:qR w1 w2 48 [.slice la us.length lc]:=bT;have z2:=bT.size;have jD:=au.below.trans (bT.below.mono (by omega));have B2:=au.aN.below bT.below (by omega);have d0:aB w2 ⟨w.heap.size,0,none⟩ 0 3=some [.slice ca cs.length cc,.slice ra rs.length rc,.bool f.els]:=B2.aB;push_cast -dsimp[d0];refine aA (We f cD jS Ar Zu X _ w2 (X4.below jD)) ?_;rintro r w3 ⟨hE,ft⟩;have z3:=ft.size;have mS:=jD.trans (ft.mono (by omega));cases oJ:kl f with
 | some e =>
  rw[oJ]at hE;have hE0:=hE;obtain⟨c,e⟩:=e;obtain⟨eb,zI,rfl,Zh⟩:=hE;push_cast -dsimp;refine⟨?_,mS⟩;unfold Lt;rw[oJ];exact⟨_,rfl,hE0.mono (by omega)⟩
 | none =>
  rw[oJ]at hE;have hE:r=.nilIface:=hE;subst hE;have jR:=I9 oJ;obtain⟨nm,jR⟩:=jR;have B3:=B2.below ft (by omega);have d3:aB w3 ⟨w.heap.size,0,none⟩ 0 3=some [.slice ca cs.length cc,.slice ra rs.length rc,.bool f.els]:=B3.aB;push_cast -dsimp[d3];refine aA (LR f cD.1 Ar X _ w3 (X4.below mS)) ?_;rintro r w4 ⟨hN,fo⟩;have z4:=fo.size;have re:=mS.trans (fo.mono (by omega));unfold nI at hN;rw[jR]at hN;obtain⟨mb,hmb,rfl,EB,vf⟩:=hN;push_cast -dsimp;refine aR (z:=[.map none]) (by kernel_rfl) ?_;intro w5 bW;have z5:=bW.size;push_cast -dsimp;refine aC bW.aN (by simp) rfl ?_;intro w6 cB;have z6:=cB.size;have aJ7:Below w4.heap.size w4 w6:=bW.below.trans (cB.kept.below (by omega) (λi h=>by omega));have N6:aO w6 w4.heap.size 36 [.map (some mb)]:=cB.aN;push_cast -dsimp;refine aR (z:=[.int .i64 0]) (by kernel_rfl) ?_;intro w7 dN;have z7:=dN.size;push_cast -dsimp;refine aC dN.aN (by simp) rfl ?_;intro w8 n9;have z8:=n9.size;have aFW:Below w6.heap.size w6 w8:=dN.below.trans (n9.kept.below (by omega) (λi h=>by omega));have SV:=aJ7.trans (aFW.mono (by omega));have aKa:=re.trans (SV.mono (by omega));have N8:=N6.below aFW (by omega);have I8:aO w8 w6.heap.size 3 [.int .i64 0]:=n9.aN;have F8:=(B3.below fo (by omega)).below SV (by omega);have L8:aO w8 w1.heap.size 48 [.slice la us.length lc]:=((bT.aN.below ft (by omega)).below fo (by omega)).below SV (by omega);have aBl:=EB.below SV;have Ho:∃Xn:Nat->Prop,Xn=(λb=>X b/\b<w3.heap.size):=⟨_,rfl⟩;obtain⟨Xn,Ho⟩:=Ho;rw[<-Ho]at aBl;push_cast -dsimp
  have nV:w8.heap.size=w6.heap.size+1:=by omega
  refine aM [9,10,11,12,26,27,28,29,30,31,32,33,34,35,36,37,38,39,40,41,42,43,44,45,46,47,48,49,50,51,52,53,54,55,56,57,58,59,60,61,62,63,64,65,66] (λz wx=>∃(i ib:Nat) (ov:Value),z 10=.pointer (some ⟨ib,0,none⟩)/\z 9=ov/\i<=us.length+1/\(us=[]->i=0)/\aO wx ib 3 [.int .i64 i]/\Vc.Own w8.heap.size 3 1 br wx ov (pK nm us f.rules f.els i)/\(∀g,ov.ownBlock=some g->g≠ib)/\Below w8.heap.size w8 wx) (λz wx=>us.length+1-jJ (z 10) wx) ?_ ?_
  ·exact⟨0,w6.heap.size,_,rfl,rfl,by omega,λ_=>rfl,I8,Vc.Own.nil (enc:=br) _ _ (λ_=>rfl) _,(λg h=>by cases h),Below.refl _ _⟩
  intro z wx hI;obtain⟨i,ib,ov,nH,h9,hi,DD,hIB,hO,dA,kW⟩:=hI;have zx:=kW.size;have bC:=aKa.trans (kW.mono (by omega));have WB:=VW nm us f.rules f.els i;obtain⟨oa,oc,rfl⟩:=hO.slice;have Fx:=F8.below kW (by omega);have Lx:=L8.below kW (by omega);have Nx:=N8.below kW (by omega);have c0:wx.cell? ⟨ib,0,none⟩=some (.int .i64 i):=hIB.cell rfl;have cl:wx.cell? ⟨w1.heap.size,0,none⟩=some (.slice la us.length lc):=Lx.cell rfl;have cn:wx.cell? ⟨w4.heap.size,0,none⟩=some (.map (some mb)):=Nx.cell rfl;have f1:wx.cell? ⟨w.heap.size,1,none⟩=some (.slice ra rs.length rc):=Fx.cell rfl;have aKh:jJ (z 10) wx=i:=jZ nH c0;rw[aKh];push_cast -dsimp[nH,h9,c0,cl];have An:(us=[]\/us.length<i)->Lt w.heap.size f us (.tuple #[.slice oa (pK nm us f.rules f.els i).length oc,.nilIface]) wx:=λh=>by
   unfold Lt;rw[oJ];refine⟨nm,_,jR,rfl,?_⟩;have e:pK nm us f.rules f.els i=jx (aZ nm) (an us) f.rules f.els:=by
    unfold jx pK;by_cases h0:us=[]
    ·rw[if_pos (by rw[h0];rfl),DD h0];rfl
    rw[if_neg (by unfold an;simpa using h0),eP];have:i=us.length+1:=by
     rcases h with h|h
     ·exact absurd h h0
     omega
    rw[this]
   rw[<-e];exact hO.mono (by omega)
  refine⟨λhle=>⟨λpG=>?_,λhzero=>?_⟩,λNK=>?_⟩
  ·have aKJ:i<=us.length:=by omega
   have AK:us≠[]:=λh=>by rw[h]at pG;simp at pG
   have hXm:∀b,(λ_:Nat=>False) b->X b:=λ_ h=>h.elim;have hRx:dd (kG (λ_=>False) wx) rs f.rules:=hR.imp λa b h=>⟨h.1,h.2.1,aV.qP (h.2.2.1.below bC) hXm,aV.qP (h.2.2.2.below bC) hXm⟩;have hNx:gH (λ_=>False) wx mb nm:=(EB.below (SV.trans (kW.mono (by omega)))).qP (λ_ h=>h.elim);push_cast -dsimp[f1];refine aA (OY f.rules Zu cD.2 jS nm vf us hlen i aKJ _ _ (.slice la us.length lc) rs mb w4.heap.size w1.heap.size ib wx ((fO.below bC).weaken hXm) hRx hNx ((hU.below bC).weaken hXm) cn cl c0) ?_;rintro r wy ⟨hK,cp⟩;have zy:=cp.size;have Fy:=Fx.below cp (by omega);have Ly:=Lx.below cp (by omega);have IH:=hIB.below cp hIB.lt;have oq:=hO.below cp;have gz:=bC.trans (cp.mono (by omega));have uD:=kW.trans (cp.mono (by omega));have e1:wy.cell? ⟨w.heap.size,1,none⟩=some (.slice ra rs.length rc):=Fy.cell rfl;have e2:wy.cell? ⟨w.heap.size,2,none⟩=some (.bool f.els):=Fy.cell rfl;have e3:wy.cell? ⟨w1.heap.size,0,none⟩=some (.slice la us.length lc):=Ly.cell rfl;have e4:wy.cell? ⟨ib,0,none⟩=some (.int .i64 i):=IH.cell rfl;rcases hK with ⟨k,c,rfl,hc,aKT,gC⟩|⟨rfl,gC⟩
   ·have uP:Hz (aZ nm) (an us) f.rules f.els i=(c.brk || decide (i=0) || decide (i=us.length)):=by
     unfold Hz;rw[Uv hc aKT gC,eP]
    obtain⟨x,hx,wK,tD,Av,wJ⟩:=jV hR hc;obtain⟨xp,xb,x1,x2⟩:=x;simp only at wK tD Av wJ;subst wK;subst tD;obtain⟨b1,o,rfl,zJ,aP⟩:=(fO.below gz).get hx;have c4:wy.cell? ⟨b1,o+k*4+1,none⟩=some (.bool c.brk):=by simpa[gv] using aP 1 _ rfl
    have hkl:=(List.getElem?_eq_some_iff.1 hx).1;cases NB:(c.brk) with
    | true =>
     rw[NB]at uP
     (rw[NB]at c4);push_cast -dsimp[e1,e2,e3,e4,c4];refine⟨λ_=>⟨⟨by omega,by omega⟩,?_⟩,λh=>by omega⟩;have oN:=jO nm us f.rules f.els i;rw[uP,if_pos (by simp)]at oN;refine cY bw rfl rfl (by omega) ?_;intro wr jT;have zr:=jT.size;push_cast -dsimp;refine ae (base:=w8.heap.size) [i] (enc:=br) bw (oq.new jT) (by rfl) (λj u hu=>by rw[Nat.zero_add];exact jT.cell hu) (by simp[br,Value.oneCell']) (by simp only[List.length_cons,List.length_nil];omega) (by omega) ?_;intro vq wq sP uH Zw;have sy:Kept (λj=>(Value.slice oa (pK nm us f.rules f.els i).length oc).ownBlock=some j) wr wq:=Kept.grown uH (λ_ h=>h);have QB:=(IH.below jT.below IH.lt).kept sy (λh=>dA _ h rfl);have vg:Below w8.heap.size w8 wq:=uD.trans ((jT.below.mono (by omega)).trans (sy.below (by omega) (λg h=>(hO.block g h).1)));rw[<-oN]at sP;have x6:=vg;have zS:=x6.size;have xX:=sP;have cS:(wq).cell? ⟨ib,0,none⟩=some (.int .i64 i):=(QB).cell rfl;push_cast -dsimp[cS];refine aR (z:=[.int .i64 0]) (by kernel_rfl) ?_;intro wa eL;have za:=eL.size;push_cast -dsimp;refine aC eL.aN (by simp) rfl ?_;intro wb cX;have zb:=cX.size;have cb:wb.cell? ⟨(wq).heap.size,0,none⟩=some (.int .i64 i):=cX.aN.cell rfl;push_cast -dsimp[cb];refine⟨⟨by omega,by omega⟩,?_⟩;refine aC cX.aN (by simp) rfl ?_;intro wc lF;have zc:=lF.size;have ly:Below (wq).heap.size (wq) wc:=eL.below.trans ((cX.kept.below (by omega) (λi h=>by omega)).trans (lF.kept.below (by omega) (λi h=>by omega)));have IC:aO wc (wq).heap.size 3 [.int .i64 ((i+1:Nat):Int)]:=lF.aN
     have JD:jJ (.pointer (some ⟨(wq).heap.size,0,none⟩)) wc=i+1:=jZ rfl (IC.cell rfl);push_cast -dsimp;refine⟨⟨i+1,(wq).heap.size,_,rfl,rfl,by omega,λh=>absurd h AK,IC,xX.below ly,(λg hg=>by have:=xX.block g hg;omega),x6.trans (ly.mono (by omega))⟩,?_⟩
     show us.length+1-jJ (.pointer (some ⟨(wq).heap.size,0,none⟩)) wc<us.length+1-i
     rw[JD];omega
    | false =>
     rw[NB]at uP
     (rw[NB]at c4);push_cast -dsimp[e1,e2,e3,e4,c4];refine⟨λ_=>⟨⟨by omega,by omega⟩,?_⟩,λh=>by omega⟩;refine⟨λh0=>⟨λh1=>?_,λh1=>?_⟩,λh0=>?_⟩
     ·have qV:i=us.length:=by omega
      have oN:=jO nm us f.rules f.els i;rw[uP,if_pos (by simp[qV])]at oN;refine cY bw rfl rfl (by omega) ?_;intro wr jT;have zr:=jT.size;push_cast -dsimp;refine ae (base:=w8.heap.size) [i] (enc:=br) bw (oq.new jT) (by rfl) (λj u hu=>by rw[Nat.zero_add];exact jT.cell hu) (by simp[br,Value.oneCell']) (by simp only[List.length_cons,List.length_nil];omega) (by omega) ?_;intro vq wq sP uH Zw;have sy:Kept (λj=>(Value.slice oa (pK nm us f.rules f.els i).length oc).ownBlock=some j) wr wq:=Kept.grown uH (λ_ h=>h);have QB:=(IH.below jT.below IH.lt).kept sy (λh=>dA _ h rfl);have vg:Below w8.heap.size w8 wq:=uD.trans ((jT.below.mono (by omega)).trans (sy.below (by omega) (λg h=>(hO.block g h).1)));rw[<-oN]at sP;have x6:=vg;have zS:=x6.size;have xX:=sP;have cS:(wq).cell? ⟨ib,0,none⟩=some (.int .i64 i):=(QB).cell rfl;push_cast -dsimp[cS];refine aR (z:=[.int .i64 0]) (by kernel_rfl) ?_;intro wa eL;have za:=eL.size;push_cast -dsimp;refine aC eL.aN (by simp) rfl ?_;intro wb cX;have zb:=cX.size;have cb:wb.cell? ⟨(wq).heap.size,0,none⟩=some (.int .i64 i):=cX.aN.cell rfl;push_cast -dsimp[cb];refine⟨⟨by omega,by omega⟩,?_⟩;refine aC cX.aN (by simp) rfl ?_;intro wc lF;have zc:=lF.size;have ly:Below (wq).heap.size (wq) wc:=eL.below.trans ((cX.kept.below (by omega) (λi h=>by omega)).trans (lF.kept.below (by omega) (λi h=>by omega)));have IC:aO wc (wq).heap.size 3 [.int .i64 ((i+1:Nat):Int)]:=lF.aN;have JD:jJ (.pointer (some ⟨(wq).heap.size,0,none⟩)) wc=i+1:=jZ rfl (IC.cell rfl);push_cast -dsimp
      refine⟨⟨i+1,(wq).heap.size,_,rfl,rfl,by omega,λh=>absurd h AK,IC,xX.below ly,(λg hg=>by have:=xX.block g hg;omega),x6.trans (ly.mono (by omega))⟩,?_⟩
      show us.length+1-jJ (.pointer (some ⟨(wq).heap.size,0,none⟩)) wc<us.length+1-i
      rw[JD];omega
     ·have wC:i≠0:=by omega
      have qV:i≠us.length:=by omega
      have oN:=jO nm us f.rules f.els i;rw[uP,if_neg (by simp[wC,qV]),List.append_nil]at oN;have aBo:Vc.Own w8.heap.size 3 1 br wy (.slice oa (pK nm us f.rules f.els i).length oc) (pK nm us f.rules f.els (i+1)):=by rw[oN];exact oq
      have x6:=uD;have zS:=x6.size;have xX:=aBo;have cS:(wy).cell? ⟨ib,0,none⟩=some (.int .i64 i):=(IH).cell rfl;skip;refine aR (z:=[.int .i64 0]) (by kernel_rfl) ?_;intro wa eL;have za:=eL.size;push_cast -dsimp;refine aC eL.aN (by simp) rfl ?_;intro wb cX;have zb:=cX.size;have cb:wb.cell? ⟨(wy).heap.size,0,none⟩=some (.int .i64 i):=cX.aN.cell rfl;push_cast -dsimp[cb];refine⟨⟨by omega,by omega⟩,?_⟩;refine aC cX.aN (by simp) rfl ?_;intro wc lF;have zc:=lF.size;have ly:Below (wy).heap.size (wy) wc:=eL.below.trans ((cX.kept.below (by omega) (λi h=>by omega)).trans (lF.kept.below (by omega) (λi h=>by omega)));have IC:aO wc (wy).heap.size 3 [.int .i64 ((i+1:Nat):Int)]:=lF.aN;have JD:jJ (.pointer (some ⟨(wy).heap.size,0,none⟩)) wc=i+1:=jZ rfl (IC.cell rfl);push_cast -dsimp;refine⟨⟨i+1,(wy).heap.size,_,rfl,rfl,by omega,λh=>absurd h AK,IC,xX.below ly,(λg hg=>by have:=xX.block g hg;omega),x6.trans (ly.mono (by omega))⟩,?_⟩
      show us.length+1-jJ (.pointer (some ⟨(wy).heap.size,0,none⟩)) wc<us.length+1-i
      rw[JD];omega
     have wC:i=0:=by omega
     have oN:=jO nm us f.rules f.els i;rw[uP,if_pos (by simp[wC])]at oN;refine cY bw rfl rfl (by omega) ?_;intro wr jT;have zr:=jT.size;push_cast -dsimp;refine ae (base:=w8.heap.size) [i] (enc:=br) bw (oq.new jT) (by rfl) (λj u hu=>by rw[Nat.zero_add];exact jT.cell hu) (by simp[br,Value.oneCell']) (by simp only[List.length_cons,List.length_nil];omega) (by omega) ?_;intro vq wq sP uH Zw;have sy:Kept (λj=>(Value.slice oa (pK nm us f.rules f.els i).length oc).ownBlock=some j) wr wq:=Kept.grown uH (λ_ h=>h);have QB:=(IH.below jT.below IH.lt).kept sy (λh=>dA _ h rfl);have vg:Below w8.heap.size w8 wq:=uD.trans ((jT.below.mono (by omega)).trans (sy.below (by omega) (λg h=>(hO.block g h).1)));rw[<-oN]at sP;have x6:=vg;have zS:=x6.size;have xX:=sP;have cS:(wq).cell? ⟨ib,0,none⟩=some (.int .i64 i):=(QB).cell rfl;push_cast -dsimp[cS];refine aR (z:=[.int .i64 0]) (by kernel_rfl) ?_;intro wa eL;have za:=eL.size;push_cast -dsimp;refine aC eL.aN (by simp) rfl ?_;intro wb cX;have zb:=cX.size;have cb:wb.cell? ⟨(wq).heap.size,0,none⟩=some (.int .i64 i):=cX.aN.cell rfl;push_cast -dsimp[cb];refine⟨⟨by omega,by omega⟩,?_⟩;refine aC cX.aN (by simp) rfl ?_;intro wc lF;have zc:=lF.size;have ly:Below (wq).heap.size (wq) wc:=eL.below.trans ((cX.kept.below (by omega) (λi h=>by omega)).trans (lF.kept.below (by omega) (λi h=>by omega)));have IC:aO wc (wq).heap.size 3 [.int .i64 ((i+1:Nat):Int)]:=lF.aN;have JD:jJ (.pointer (some ⟨(wq).heap.size,0,none⟩)) wc=i+1:=jZ rfl (IC.cell rfl);push_cast -dsimp
     refine⟨⟨i+1,(wq).heap.size,_,rfl,rfl,by omega,λh=>absurd h AK,IC,xX.below ly,(λg hg=>by have:=xX.block g hg;omega),x6.trans (ly.mono (by omega))⟩,?_⟩
     show us.length+1-jJ (.pointer (some ⟨(wq).heap.size,0,none⟩)) wc<us.length+1-i
     rw[JD];omega
   have AF:∃el,f.els=el:=⟨_,rfl⟩;obtain⟨el,AF⟩:=AF;have uP:Hz (aZ nm) (an us) f.rules f.els i=(el || decide (i=0) || decide (i=us.length)):=by
    unfold Hz;rw[KC gC,eP,AF]
   have e2:wy.cell? ⟨w.heap.size,2,none⟩=some (.bool el):=by rw[<-AF];exact Fy.cell rfl
   cases NB:(el) with
   | true =>
    rw[NB]at uP
    (rw[NB]at e2);push_cast -dsimp[e1,e2,e3,e4];have oN:=jO nm us f.rules f.els i;rw[uP,if_pos (by simp)]at oN;refine cY bw rfl rfl (by omega) ?_;intro wr jT;have zr:=jT.size;push_cast -dsimp;refine ae (base:=w8.heap.size) [i] (enc:=br) bw (oq.new jT) (by rfl) (λj u hu=>by rw[Nat.zero_add];exact jT.cell hu) (by simp[br,Value.oneCell']) (by simp only[List.length_cons,List.length_nil];omega) (by omega) ?_;intro vq wq sP uH Zw;have sy:Kept (λj=>(Value.slice oa (pK nm us f.rules f.els i).length oc).ownBlock=some j) wr wq:=Kept.grown uH (λ_ h=>h);have QB:=(IH.below jT.below IH.lt).kept sy (λh=>dA _ h rfl);have vg:Below w8.heap.size w8 wq:=uD.trans ((jT.below.mono (by omega)).trans (sy.below (by omega) (λg h=>(hO.block g h).1)));rw[<-oN]at sP;have x6:=vg;have zS:=x6.size;have xX:=sP;have cS:(wq).cell? ⟨ib,0,none⟩=some (.int .i64 i):=(QB).cell rfl;push_cast -dsimp[cS];refine aR (z:=[.int .i64 0]) (by kernel_rfl) ?_;intro wa eL;have za:=eL.size;push_cast -dsimp;refine aC eL.aN (by simp) rfl ?_;intro wb cX;have zb:=cX.size;have cb:wb.cell? ⟨(wq).heap.size,0,none⟩=some (.int .i64 i):=cX.aN.cell rfl;push_cast -dsimp[cb];refine⟨⟨by omega,by omega⟩,?_⟩;refine aC cX.aN (by simp) rfl ?_;intro wc lF;have zc:=lF.size;have ly:Below (wq).heap.size (wq) wc:=eL.below.trans ((cX.kept.below (by omega) (λi h=>by omega)).trans (lF.kept.below (by omega) (λi h=>by omega)));have IC:aO wc (wq).heap.size 3 [.int .i64 ((i+1:Nat):Int)]:=lF.aN
    have JD:jJ (.pointer (some ⟨(wq).heap.size,0,none⟩)) wc=i+1:=jZ rfl (IC.cell rfl);push_cast -dsimp;refine⟨⟨i+1,(wq).heap.size,_,rfl,rfl,by omega,λh=>absurd h AK,IC,xX.below ly,(λg hg=>by have:=xX.block g hg;omega),x6.trans (ly.mono (by omega))⟩,?_⟩
    show us.length+1-jJ (.pointer (some ⟨(wq).heap.size,0,none⟩)) wc<us.length+1-i
    rw[JD];omega
   | false =>
    rw[NB]at uP
    (rw[NB]at e2);push_cast -dsimp[e1,e2,e3,e4];refine⟨λh0=>⟨λh1=>?_,λh1=>?_⟩,λh0=>?_⟩
    ·have qV:i=us.length:=by omega
     have oN:=jO nm us f.rules f.els i;rw[uP,if_pos (by simp[qV])]at oN;refine cY bw rfl rfl (by omega) ?_;intro wr jT;have zr:=jT.size;push_cast -dsimp;refine ae (base:=w8.heap.size) [i] (enc:=br) bw (oq.new jT) (by rfl) (λj u hu=>by rw[Nat.zero_add];exact jT.cell hu) (by simp[br,Value.oneCell']) (by simp only[List.length_cons,List.length_nil];omega) (by omega) ?_;intro vq wq sP uH Zw;have sy:Kept (λj=>(Value.slice oa (pK nm us f.rules f.els i).length oc).ownBlock=some j) wr wq:=Kept.grown uH (λ_ h=>h);have QB:=(IH.below jT.below IH.lt).kept sy (λh=>dA _ h rfl);have vg:Below w8.heap.size w8 wq:=uD.trans ((jT.below.mono (by omega)).trans (sy.below (by omega) (λg h=>(hO.block g h).1)));rw[<-oN]at sP;have x6:=vg;have zS:=x6.size;have xX:=sP;have cS:(wq).cell? ⟨ib,0,none⟩=some (.int .i64 i):=(QB).cell rfl;push_cast -dsimp[cS];refine aR (z:=[.int .i64 0]) (by kernel_rfl) ?_;intro wa eL;have za:=eL.size;push_cast -dsimp;refine aC eL.aN (by simp) rfl ?_;intro wb cX;have zb:=cX.size;have cb:wb.cell? ⟨(wq).heap.size,0,none⟩=some (.int .i64 i):=cX.aN.cell rfl;push_cast -dsimp[cb];refine⟨⟨by omega,by omega⟩,?_⟩;refine aC cX.aN (by simp) rfl ?_;intro wc lF;have zc:=lF.size;have ly:Below (wq).heap.size (wq) wc:=eL.below.trans ((cX.kept.below (by omega) (λi h=>by omega)).trans (lF.kept.below (by omega) (λi h=>by omega)));have IC:aO wc (wq).heap.size 3 [.int .i64 ((i+1:Nat):Int)]:=lF.aN;have JD:jJ (.pointer (some ⟨(wq).heap.size,0,none⟩)) wc=i+1:=jZ rfl (IC.cell rfl);push_cast -dsimp
     refine⟨⟨i+1,(wq).heap.size,_,rfl,rfl,by omega,λh=>absurd h AK,IC,xX.below ly,(λg hg=>by have:=xX.block g hg;omega),x6.trans (ly.mono (by omega))⟩,?_⟩
     show us.length+1-jJ (.pointer (some ⟨(wq).heap.size,0,none⟩)) wc<us.length+1-i
     rw[JD];omega
    ·have wC:i≠0:=by omega
     have qV:i≠us.length:=by omega
     have oN:=jO nm us f.rules f.els i;rw[uP,if_neg (by simp[wC,qV]),List.append_nil]at oN;have aBo:Vc.Own w8.heap.size 3 1 br wy (.slice oa (pK nm us f.rules f.els i).length oc) (pK nm us f.rules f.els (i+1)):=by rw[oN];exact oq
     have x6:=uD;have zS:=x6.size;have xX:=aBo;have cS:(wy).cell? ⟨ib,0,none⟩=some (.int .i64 i):=(IH).cell rfl;skip;refine aR (z:=[.int .i64 0]) (by kernel_rfl) ?_;intro wa eL;have za:=eL.size;push_cast -dsimp;refine aC eL.aN (by simp) rfl ?_;intro wb cX;have zb:=cX.size;have cb:wb.cell? ⟨(wy).heap.size,0,none⟩=some (.int .i64 i):=cX.aN.cell rfl;push_cast -dsimp[cb];refine⟨⟨by omega,by omega⟩,?_⟩;refine aC cX.aN (by simp) rfl ?_;intro wc lF;have zc:=lF.size;have ly:Below (wy).heap.size (wy) wc:=eL.below.trans ((cX.kept.below (by omega) (λi h=>by omega)).trans (lF.kept.below (by omega) (λi h=>by omega)));have IC:aO wc (wy).heap.size 3 [.int .i64 ((i+1:Nat):Int)]:=lF.aN;have JD:jJ (.pointer (some ⟨(wy).heap.size,0,none⟩)) wc=i+1:=jZ rfl (IC.cell rfl);push_cast -dsimp;refine⟨⟨i+1,(wy).heap.size,_,rfl,rfl,by omega,λh=>absurd h AK,IC,xX.below ly,(λg hg=>by have:=xX.block g hg;omega),x6.trans (ly.mono (by omega))⟩,?_⟩
     show us.length+1-jJ (.pointer (some ⟨(wy).heap.size,0,none⟩)) wc<us.length+1-i
     rw[JD];omega
    have wC:i=0:=by omega
    have oN:=jO nm us f.rules f.els i;rw[uP,if_pos (by simp[wC])]at oN;refine cY bw rfl rfl (by omega) ?_;intro wr jT;have zr:=jT.size;push_cast -dsimp;refine ae (base:=w8.heap.size) [i] (enc:=br) bw (oq.new jT) (by rfl) (λj u hu=>by rw[Nat.zero_add];exact jT.cell hu) (by simp[br,Value.oneCell']) (by simp only[List.length_cons,List.length_nil];omega) (by omega) ?_;intro vq wq sP uH Zw;have sy:Kept (λj=>(Value.slice oa (pK nm us f.rules f.els i).length oc).ownBlock=some j) wr wq:=Kept.grown uH (λ_ h=>h);have QB:=(IH.below jT.below IH.lt).kept sy (λh=>dA _ h rfl);have vg:Below w8.heap.size w8 wq:=uD.trans ((jT.below.mono (by omega)).trans (sy.below (by omega) (λg h=>(hO.block g h).1)));rw[<-oN]at sP;have x6:=vg;have zS:=x6.size;have xX:=sP;have cS:(wq).cell? ⟨ib,0,none⟩=some (.int .i64 i):=(QB).cell rfl;push_cast -dsimp[cS];refine aR (z:=[.int .i64 0]) (by kernel_rfl) ?_;intro wa eL;have za:=eL.size;push_cast -dsimp;refine aC eL.aN (by simp) rfl ?_;intro wb cX;have zb:=cX.size;have cb:wb.cell? ⟨(wq).heap.size,0,none⟩=some (.int .i64 i):=cX.aN.cell rfl;push_cast -dsimp[cb];refine⟨⟨by omega,by omega⟩,?_⟩;refine aC cX.aN (by simp) rfl ?_;intro wc lF;have zc:=lF.size;have ly:Below (wq).heap.size (wq) wc:=eL.below.trans ((cX.kept.below (by omega) (λi h=>by omega)).trans (lF.kept.below (by omega) (λi h=>by omega)));have IC:aO wc (wq).heap.size 3 [.int .i64 ((i+1:Nat):Int)]:=lF.aN;have JD:jJ (.pointer (some ⟨(wq).heap.size,0,none⟩)) wc=i+1:=jZ rfl (IC.cell rfl);push_cast -dsimp
    refine⟨⟨i+1,(wq).heap.size,_,rfl,rfl,by omega,λh=>absurd h AK,IC,xX.below ly,(λg hg=>by have:=xX.block g hg;omega),x6.trans (ly.mono (by omega))⟩,?_⟩
    show us.length+1-jJ (.pointer (some ⟨(wq).heap.size,0,none⟩)) wc<us.length+1-i
    rw[JD];omega
  ·exact⟨An (.inl (List.eq_nil_of_length_eq_zero (by omega))),bC⟩
  exact⟨An (.inr (by omega)),bC⟩
end Go.Proofs.YtodeeahdhnjpkaaGreatDoor
end
section
namespace Cae
section
variable {has:ax->Int->Prop} {pts:List Int}
noncomputable def VY (has:ax->Int->Prop)(pts:List Int)(rules:List cW)(els:Bool)(i:Nat):List Nat:=(List.range i).filter (Hz has pts rules els)
theorem VZ (rules:List cW)(els:Bool)(i:Nat):VY has pts rules els (i+1)=VY has pts rules els i++if Hz has pts rules els i then [i] else []:=by
 unfold VY;rw[List.range_succ,List.filter_append];congr 1;by_cases h:Hz has pts rules els i=true
 ·rw[if_pos h,List.filter_cons_of_pos h,List.filter_nil]
 rw[if_neg h,List.filter_cons_of_neg h,List.filter_nil]
theorem ZE (rules:List cW)(els:Bool)(i:Nat):(VY has pts rules els i).length<=i:=by
 have:=List.length_filter_le (Hz has pts rules els) (List.range i);rw[List.length_range]at this;exact this
open Classical in
theorem O0 {rules:List cW}{els:Bool}{i k:Nat}{r:cW}(hk:rules[k]?=some r):ml has pts els i (rules.drop k)=if yJ has pts r i then r.brk else ml has pts els i (rules.drop (k+1)):=by
 obtain⟨bZ,he⟩:=List.getElem?_eq_some_iff.1 hk;rw[List.drop_eq_getElem_cons bZ,he,ml]
end
end Cae
namespace Go.Proofs.YtodeeahdhnjpkaaGreatDoor
open Go.Vc Go.Proofs Go.RowKit Cae
attribute [local irreducible] cw ag aq a8 runK bD Sl Vc.Own vc aW cN ai
def IL (B:Nat)(f:dQ)(pts:List Int)(r:Value)(w:World):Prop:=match kl f with
 | some e=>r=.tuple #[.slice none 0 0,.agg #[.int .i64 e.1,.int .i64 (e.2:Int)]]
 | none=>∃nm v,fA [] f.bJ=.ok nm/\r=.tuple #[v,.agg #[.int .i64 0,.int .i64 (-1)]]/\Vc.Own B 3 1 br w v (jx (aZ nm) pts f.rules f.els)
theorem MK {f:dQ}{q:Int×Nat}(h:kl f=some q):q.1=9\/q.1=7:=by
 unfold kl at h;split at h
 ·cases h;unfold CL;dsimp only;split<;>simp
 cases hr:eZ _ f.rules with
 | none=>rw[hr]at h;cases h
 | some e=>rw[hr]at h;cases h;exact .inr rfl
theorem OM (f:dQ)(cD:rV f)(jS:QE f)(Ar:f.bJ.length<=1000000)(Zu:f.rules.length<=1000000)(pts:List Int)(hlen:pts.length<=1000)(oM:∀p∈pts,0<=p/\p<=1114111)(X Xp:Nat->Prop)(v pv:Value)(w:World)(hg:Gr w)(hv:gn X w v f)(hP:Sl Xp 1 (En eV) w pv pts) :
  bD Tryz.prog 16 [v,pv] w λr w'=>IL w.heap.size f pts r w'/\Below w.heap.size w w':=by
 have X4:=hv;obtain⟨cv,rv,cs,rs,rfl,je,fO,hC,hR⟩:=hv;have NR:=dd.len hR;obtain⟨ca,cc,rfl,Sb⟩:=je.shape;obtain⟨ra,rc,rfl,hrc⟩:=fO.shape;obtain⟨pa,pc,rfl,nC⟩:=hP.shape;refine cM Tryz.func16 rfl (by kernel_rfl) [.tmp 4,.cell 5 28] rfl ?_;push_cast -dsimp(maxSteps:=4000000) [Tryz.ntmps16];refine aD ?_;push_cast -dsimp;refine ah ?_;intro w1 au;have au:qR w w1 25 [.slice ca cs.length cc,.slice ra rs.length rc,.bool f.els]:=au;have z1:=au.size;push_cast -dsimp;refine aR (z:=[.int .i64 0,.int .i64 0]) (by kernel_rfl) ?_;intro w2 bT;have z2:=bT.size;have B2:=au.aN.below bT.below (by omega);have E2:aO w2 w1.heap.size 28 [.int .i64 0,.int .i64 0]:=bT.aN;have c2:=au.below.trans (bT.below.mono (by omega));have d0:aB w2 ⟨w.heap.size,0,none⟩ 0 3=some [.slice ca cs.length cc,.slice ra rs.length rc,.bool f.els]:=B2.aB;push_cast -dsimp;refine aD ?_;push_cast -dsimp[d0];refine aA (Uc f cD jS Ar Zu X _ w2 (hg.below c2) (X4.below c2)) ?_;rintro r w3 ⟨hE,b3⟩;have z3:=b3.size;have c3:=c2.trans (b3.mono (by omega));have aCa:∃c p:Int,r=.agg #[.int .i64 c,.int .i64 p]:=by
  unfold MA at hE;cases oJ:kl f with
  | none=>rw[oJ]at hE;exact⟨_,_,hE⟩
  | some q=>rw[oJ]at hE;exact⟨_,_,hE⟩
 obtain⟨fc,fp,rfl⟩:=aCa;push_cast -dsimp;refine aR (z:=[.int .i64 0,.int .i64 0]) (by kernel_rfl) ?_;intro w4 aj;have z4:=aj.size;push_cast -dsimp;refine aF (xt:=28) (n:=2) (by kernel_rfl) aj.aN rfl (by decide) (by simp;exact⟨rfl,rfl⟩) ?_;intro w5 bW;have F5:aO w5 w3.heap.size 28 [.int .i64 fc,.int .i64 fp]:=bW.aN;have z5:=bW.size;have Hl:Below w3.heap.size w3 w5:=aj.below.trans (bW.kept.below (B:=w3.heap.size) (by omega) (λi h=>by omega));have c5:=c3.trans (Hl.mono (by omega));have E5:=(E2.below b3 (by omega)).below Hl (by omega);have B5:=(B2.below b3 (by omega)).below Hl (by omega);have f5:aB w5 ⟨w3.heap.size,0,none⟩ 0 2=some [.int .i64 fc,.int .i64 fp]:=F5.aB;have g5:=aL (hg.below c5);have d5:aB w5 ⟨w.heap.size,0,none⟩ 0 3=some [.slice ca cs.length cc,.slice ra rs.length rc,.bool f.els]:=B5.aB;cases oJ:kl f with
 | some q =>
  have Vp:=MK oJ;unfold MA at hE;rw[oJ]at hE;obtain⟨qc,qp⟩:=q;have hE:_=_:=hE;simp only[Value.agg.injEq,Array.mk.injEq,List.cons.injEq,Value.int.injEq,true_and,and_true]at hE;obtain⟨rfl,rfl⟩:=hE;dsimp only at Vp;rcases Vp with rfl|rfl;·
   push_cast -dsimp[f5,g5]
   have f5d:aB w5.drew ⟨w3.heap.size,0,none⟩ 0 2=some [.int .i64 9,.int .i64 qp]:=f5
   refine aX (λar=>aB ar ⟨w3.heap.size,0,none⟩ 0 2=some [.int .i64 9,.int .i64 qp]) mixed (by kernel_rfl) f5 ?_
   push_cast -dsimp[f5d]
   refine⟨λar h=>by rw[h];exact rfl,?_⟩
   refine aF (xt:=28) (n:=2) (by kernel_rfl) E5.drew rfl (by decide) (by simp;exact⟨rfl,rfl⟩) ?_
   intro w7 dN
   have E7:aO w7 w1.heap.size 28 [.int .i64 9,.int .i64 qp]:=dN.aN
   have dE:aB w7 ⟨w1.heap.size,0,none⟩ 0 2=some [.int .i64 9,.int .i64 qp]:=E7.aB
   have k7:Kept (λi=>i=w1.heap.size) w5 w7:=(Kept.refl (λi=>i=w1.heap.size) w5).drew.trans dN.kept (λi _ h=>h)
   have se:=c5.trans (k7.below (B:=w.heap.size) c5.size (λi h=>by omega))
   refine⟨(F5.kept k7 (by omega)).aB,?_⟩
   push_cast -dsimp[dE]
   refine⟨?_,se⟩
   unfold IL
   rw[oJ]
  ·
   push_cast -dsimp[f5,g5]
   have f5d:aB w5.drew ⟨w3.heap.size,0,none⟩ 0 2=some [.int .i64 7,.int .i64 qp]:=f5
   refine aX (λar=>aB ar ⟨w3.heap.size,0,none⟩ 0 2=some [.int .i64 7,.int .i64 qp]) mixed (by kernel_rfl) f5 ?_
   push_cast -dsimp[f5d]
   refine⟨λar h=>by rw[h];exact rfl,?_⟩
   refine aF (xt:=28) (n:=2) (by kernel_rfl) E5.drew rfl (by decide) (by simp;exact⟨rfl,rfl⟩) ?_
   intro w7 dN
   have E7:aO w7 w1.heap.size 28 [.int .i64 7,.int .i64 qp]:=dN.aN
   have dE:aB w7 ⟨w1.heap.size,0,none⟩ 0 2=some [.int .i64 7,.int .i64 qp]:=E7.aB
   have k7:Kept (λi=>i=w1.heap.size) w5 w7:=(Kept.refl (λi=>i=w1.heap.size) w5).drew.trans dN.kept (λi _ h=>h)
   have se:=c5.trans (k7.below (B:=w.heap.size) c5.size (λi h=>by omega))
   refine⟨(F5.kept k7 (by omega)).aB,?_⟩
   push_cast -dsimp[dE]
   refine⟨?_,se⟩
   unfold IL
   rw[oJ]
 | none =>
  unfold MA at hE;rw[oJ]at hE;have hE:_=_:=hE;simp only[Value.agg.injEq,Array.mk.injEq,List.cons.injEq,Value.int.injEq,true_and,and_true]at hE;obtain⟨rfl,rfl⟩:=hE;obtain⟨nm,jR⟩:∃nm,fA [] f.bJ=.ok nm:=by
   unfold kl at oJ;cases hn:fA [] f.bJ with
   | ok nm=>exact⟨nm,rfl⟩
   | error e=>rw[hn]at oJ;cases oJ
  push_cast -dsimp[f5,g5];refine aD ?_;push_cast -dsimp[d5];refine aA (ye f cD.1 Ar X _ w5 (hg.below c5) (X4.below c5)) ?_;rintro r w6 ⟨hN,b6⟩;have z6:=b6.size;have c6:=c5.trans (b6.mono c5.size);unfold rX at hN;rw[jR]at hN;obtain⟨mb,hmb,rfl,EB,vf⟩:=hN;push_cast -dsimp;refine aR (z:=[.int .i64 0,.int .i64 0]) (by kernel_rfl) ?_;intro w7 dN;have z7:=dN.size;push_cast -dsimp;refine aF (xt:=28) (n:=2) (by kernel_rfl) dN.aN rfl (by decide) (by simp;exact⟨rfl,rfl⟩) ?_;intro w8 n9;have z8:=n9.size;have b68:Below w6.heap.size w6 w8:=dN.below.trans (n9.kept.below (B:=w6.heap.size) (by omega) (λi h=>by omega));have b58:=b6.trans (b68.mono b6.size);have c8:=c6.trans (b68.mono c6.size);have E8:=E5.below b58 E5.lt;have B8:=B5.below b58 B5.lt;have aBl:=EB.below b68;push_cast -dsimp;refine aD ?_;push_cast -dsimp;refine fK (aD ?_);push_cast -dsimp;refine dr ?_;refine jP [9,10,11,12,13,14,15,27,28,29,30,31,32,33,34,35,36,37,38,39,40,41,42,43,44,45,46,47,48,49,50,51,52,53,54,55,56,57,58,59,60,61,62,63,64,65,66,67,68,69,70,71,72,73,74,75,76,77,78,79,80,81,82,83,84,85,86,87] (λz wx=>∃(i:Nat) (ov:Value),z 10=.int .i64 i/\z 9=ov/\i<=pts.length+1/\(pts.length=0->i=0)/\Vc.Own w8.heap.size 3 1 br wx ov (VY (aZ nm) pts f.rules f.els i)/\Below w8.heap.size w8 wx) (λz _=>pts.length+1-(intOf (z 10)).toNat) ?_ ?_
  ·exact⟨0,_,rfl,rfl,Nat.zero_le _,λ_=>rfl,Vc.Own.nil (enc:=br) _ _ (λ_=>rfl) _,Below.refl _ _⟩
  rintro z wx ⟨i,ov,nH,h9,hi,h0,hO,bC⟩;have zx:=bC.size;have cx:=c8.trans (bC.mono c8.size);have Bx:=B8.below bC B8.lt;have Ex:=E8.below bC E8.lt;have e1:wx.cell? ⟨w.heap.size,1,none⟩=some (.slice ra rs.length rc):=Bx.cell rfl;have e2:wx.cell? ⟨w.heap.size,2,none⟩=some (.bool f.els):=Bx.cell rfl;obtain⟨oa,oc,rfl⟩:=hO.slice;refine aD ?_;push_cast -dsimp[nH];refine⟨λhle=>⟨λpG=>?_,λgC=>?_⟩,λNK=>?_⟩
  ·refine fK (dr (aD ?_));push_cast -dsimp[nH];refine aA (Yf pts hlen i (by omega) _ _ wx (hP.below cx)) ?_;rintro r wa ⟨⟨bv,fv,rfl,hOb,hSf⟩,ba⟩;have za:=ba.size;have cwa:=cx.trans (ba.mono cx.size);have Ba:=Bx.below ba Bx.lt;have e1a:wa.cell? ⟨w.heap.size,1,none⟩=some (.slice ra rs.length rc):=Ba.cell rfl;have e2a:wa.cell? ⟨w.heap.size,2,none⟩=some (.bool f.els):=Ba.cell rfl;have hSb:=hOb.sl.weaken (X':=λ_=>False) (λ_ h=>h.elim);have hSf:=hSf.weaken (X':=λ_=>False) (λ_ h=>h.elim);have hlb:(pts.take i).reverse.length<=1000:=by rw[List.length_reverse,List.length_take];omega
   have hlf:(pts.drop i).length<=1000:=by rw[List.length_drop];omega
   have AL:∀p∈(pts.take i).reverse,0<=p/\p<=1114111:=λp hp=>oM p (List.mem_of_mem_take (List.mem_reverse.1 hp));have hpf:∀p∈pts.drop i,0<=p/\p<=1114111:=λp hp=>oM p (List.mem_of_mem_drop hp);have aFF:=(gH.qP aBl (X':=λ_=>False) (λ_ h=>h.elim)).below (bC.trans (ba.mono bC.size));push_cast -dsimp;refine aD ?_;push_cast -dsimp[e2a];refine fK (aD ?_);push_cast -dsimp[e1a];refine⟨⟨by omega,by omega⟩,?_⟩;refine dr ?_;refine jP [13,14,15,50,51,52,53,54,55,56,57,58,59,60,61,62,63,64,65,66,67,68,69,70,71,72] (λz wy=>∃(k:Nat) (b:Bool),z 14=.int .i64 ((k:Int)-1)/\z 13=.bool b/\k<=f.rules.length/\b=ml (aZ nm) pts f.els i (f.rules.drop k)/\Below wa.heap.size wa wy) (λz _=>(intOf (z 14)+1).toNat) ?_ ?_
   ·exact⟨rs.length,f.els,rfl,rfl,by omega,by rw[NR,List.drop_length,ml],Below.refl _ _⟩
   rintro z2 wy ⟨k,b,h14,zD,hk,hb,cp⟩;have zy:=cp.size;have cwy:=cwa.trans (cp.mono cwa.size);have e1y:wy.cell? ⟨w.heap.size,1,none⟩=some (.slice ra rs.length rc):=(Ba.below cp Ba.lt).cell rfl;rcases Nat.eq_zero_or_pos k with JI|JI
   ·subst JI;refine aD ?_;push_cast -dsimp[h14,zD];have hxy:=ba.trans (cp.mono ba.size);have oq:=hO.below hxy;have WB:=ZE (has:=aZ nm) (pts:=pts) f.rules f.els i;have oN:=VZ (has:=aZ nm) (pts:=pts) f.rules f.els i;have uD:=bC.trans (hxy.mono bC.size);have zxy:=hxy.size;rw[List.drop_zero]at hb;have his:Hz (aZ nm) pts f.rules f.els i=(b || decide (i=0) || decide (i=pts.length)):=by unfold Hz;rw[<-hb]
    rw[his]at oN;clear his hb zD;refine cC ?_;cases b with
    | true =>
     push_cast -dsimp[nH,h9];rw[if_pos (by simp)]at oN;refine cY bw rfl rfl (by omega) ?_;intro wr jT;have zr:=jT.size;push_cast -dsimp;refine ae (base:=w8.heap.size) [i] (enc:=br) bw (oq.new jT) (by rfl) (λj u hu=>by rw[Nat.zero_add];exact jT.cell hu) (by simp[br,Value.oneCell']) (by simp only[List.length_cons,List.length_nil];omega) (by omega) ?_;intro vq wq sP uH Zw;have sy:Kept (λj=>(Value.slice oa (VY (aZ nm) pts f.rules f.els i).length oc).ownBlock=some j) wr wq:=Kept.grown uH (λ_ h=>h);have vg:Below w8.heap.size w8 wq:=uD.trans ((jT.below.mono (by omega)).trans (sy.below (by omega) (λg h=>(hO.block g h).1)));rw[<-oN]at sP;push_cast -dsimp;refine cC ?_;push_cast -dsimp[nH];exact⟨⟨by omega,by omega⟩,⟨i+1,_,rfl,rfl,by omega,λh=>by omega,sP,vg⟩,by simp only[intOf];omega⟩
    | false =>
     push_cast -dsimp[nH,h9];refine⟨λh0=>⟨λh1=>?_,λh1=>?_⟩,λh0=>?_⟩
     ·have qV:i=pts.length:=by omega
      rw[if_pos (by simp[qV])]at oN;refine cY bw rfl rfl (by omega) ?_;intro wr jT;have zr:=jT.size;push_cast -dsimp;refine ae (base:=w8.heap.size) [i] (enc:=br) bw (oq.new jT) (by rfl) (λj u hu=>by rw[Nat.zero_add];exact jT.cell hu) (by simp[br,Value.oneCell']) (by simp only[List.length_cons,List.length_nil];omega) (by omega) ?_;intro vq wq sP uH Zw;have sy:Kept (λj=>(Value.slice oa (VY (aZ nm) pts f.rules f.els i).length oc).ownBlock=some j) wr wq:=Kept.grown uH (λ_ h=>h);have vg:Below w8.heap.size w8 wq:=uD.trans ((jT.below.mono (by omega)).trans (sy.below (by omega) (λg h=>(hO.block g h).1)));rw[<-oN]at sP;push_cast -dsimp;refine cC ?_;push_cast -dsimp[nH];exact⟨⟨by omega,by omega⟩,⟨i+1,_,rfl,rfl,by omega,λh=>by omega,sP,vg⟩,by simp only[intOf];omega⟩
     ·have wC:i≠0:=by omega
      have qV:i≠pts.length:=by omega
      rw[if_neg (by simp[wC,qV]),List.append_nil]at oN;refine cC ?_;push_cast -dsimp[nH,h9];exact⟨⟨by omega,by omega⟩,⟨i+1,_,rfl,rfl,by omega,λh=>by omega,by rw[oN];exact oq,uD⟩,by simp only[intOf];omega⟩
     have wC:i=0:=by omega
     rw[if_pos (by simp[wC])]at oN;refine cY bw rfl rfl (by omega) ?_;intro wr jT;have zr:=jT.size;push_cast -dsimp;refine ae (base:=w8.heap.size) [i] (enc:=br) bw (oq.new jT) (by rfl) (λj u hu=>by rw[Nat.zero_add];exact jT.cell hu) (by simp[br,Value.oneCell']) (by simp only[List.length_cons,List.length_nil];omega) (by omega) ?_;intro vq wq sP uH Zw;have sy:Kept (λj=>(Value.slice oa (VY (aZ nm) pts f.rules f.els i).length oc).ownBlock=some j) wr wq:=Kept.grown uH (λ_ h=>h);have vg:Below w8.heap.size w8 wq:=uD.trans ((jT.below.mono (by omega)).trans (sy.below (by omega) (λg h=>(hO.block g h).1)));rw[<-oN]at sP;push_cast -dsimp;refine cC ?_;push_cast -dsimp[nH];exact⟨⟨by omega,by omega⟩,⟨i+1,_,rfl,rfl,by omega,λh=>by omega,sP,vg⟩,by simp only[intOf];omega⟩
   obtain⟨c,hc,qm,_,_⟩:=bK (l:=f.rules) (i:=k-1) (by omega);obtain⟨⟨xp,xb,x1,x2⟩,hx,wK,tD,Av,wJ⟩:=jV hR hc;simp only at wK tD Av wJ;subst wK;subst tD;have hex:∃g o,ra=some ⟨g,o,none⟩/\aB wy ⟨g,o+(k-1)*4,none⟩ 0 4=some [.int .i64 c.pos,.bool c.brk,.pointer (some ⟨x1,0,none⟩),.pointer (some ⟨x2,0,none⟩)]:=by
    obtain⟨g,o,e,_,aP⟩:=(fO.below cwy).get hx;exact⟨g,o,e,bL _ 0 (λj u hu=>by simpa[gv,bF] using aP j u hu)⟩
   obtain⟨g,o,e,c4⟩:=hex;subst e;have tn:((k:Int)-1).toNat=k-1:=by omega
   have gh:((0:Int)<=(k:Int)-1)=True:=by simp only[eq_iff_iff,iff_true];omega
   refine aD ?_;push_cast -dsimp[h14,zD,gh];refine fK (dr (aD ?_));push_cast -dsimp[e1y,h14,tn,c4];refine⟨⟨by omega,by omega⟩,?_⟩;refine aR (z:=[.int .i64 0,.bool false,.pointer none,.pointer none]) (by kernel_rfl) ?_;intro wb cX;have zb:=cX.size;push_cast -dsimp;refine aF (n:=4) (by kernel_rfl) cX.aN rfl (by simp) (by simp[Value.oneCell']) ?_;intro wc lF;have zc:=lF.size;have byc:Below wy.heap.size wy wc:=cX.below.trans (lF.kept.below (B:=wy.heap.size) (by omega) (λi h=>by omega));have bac:=cp.trans (byc.mono cp.size);have cwc:=cwy.trans (byc.mono cwy.size);have Rc:aO wc wy.heap.size 60 [.int .i64 c.pos,.bool c.brk,.pointer (some ⟨x1,0,none⟩),.pointer (some ⟨x2,0,none⟩)]:=lF.aN;have r2:wc.cell? ⟨wy.heap.size,2,none⟩=some (.pointer (some ⟨x1,0,none⟩)):=Rc.cell rfl;have hkk:k-1+1=k:=by omega
   have hsd:=O0 (has:=aZ nm) (pts:=pts) (els:=f.els) (i:=i) hc;rw[hkk,<-hb]at hsd;push_cast -dsimp;refine aD ?_;push_cast -dsimp[r2];refine aA (q7 c.before (cD.2 c qm).1 (jS c qm).1 nm vf (λ_=>False) (λ_=>False) (bF x1) bv mb _ true wc (hg.below cwc) (aV.qP (aV.below Av cwc) (λ_ h=>h.elim)) (aFF.below bac) (hSb.below bac) hlb AL) ?_;rintro r wd ⟨⟨b1,rfl,h1⟩,bd⟩;have zd:=bd.size;have bad:=bac.trans (bd.mono bac.size);have cwd:=cwc.trans (bd.mono cwc.size);rw[<-vK (by omega)]at h1;have Rd:=Rc.below bd Rc.lt;have r3:wd.cell? ⟨wy.heap.size,3,none⟩=some (.pointer (some ⟨x2,0,none⟩)):=Rd.cell rfl;cases b1 with
   | true =>
    push_cast -dsimp[r3];refine aA (q7 c.after (cD.2 c qm).2 (jS c qm).2 nm vf (λ_=>False) (λ_=>False) (bF x2) fv mb _ false wd (hg.below cwd) (aV.qP (aV.below wJ cwd) (λ_ h=>h.elim)) (aFF.below bad) (hSf.below bad) hlf hpf) ?_;rintro r we ⟨⟨b2,rfl,h2⟩,be⟩;have bae:=bad.trans (be.mono bad.size);rw[<-tY]at h2;have r1:we.cell? ⟨wy.heap.size,1,none⟩=some (.bool c.brk):=(Rd.below be Rd.lt).cell rfl;cases b2 with
    | true =>
     push_cast -dsimp[r1];refine cC ?_;push_cast -dsimp[r1];refine cC ?_;push_cast -dsimp[h14,zD];exact⟨⟨by omega,by omega⟩,⟨k-1,c.brk,by congr 1;omega,rfl,by omega,by rw[hsd,if_pos ⟨h1.1 rfl,h2.1 rfl⟩],bae⟩,by simp only[intOf];omega⟩
    | false =>
     push_cast -dsimp[r1];refine cC ?_;push_cast -dsimp[r1];refine cC ?_;push_cast -dsimp[h14,zD];exact⟨⟨by omega,by omega⟩,⟨k-1,b,by congr 1;omega,rfl,by omega,by rw[hsd,if_neg (λh=>by have:=h2.2 h.2;cases this)],bae⟩,by simp only[intOf];omega⟩
   | false =>
    push_cast -dsimp[r3];have r1:=r3;refine cC ?_;push_cast -dsimp[r1];refine cC ?_;push_cast -dsimp[h14,zD];exact⟨⟨by omega,by omega⟩,⟨k-1,b,by congr 1;omega,rfl,by omega,by rw[hsd,if_neg (λh=>by have:=h1.2 h.1;cases this)],bad⟩,by simp only[intOf];omega⟩
  ·have wC:=h0 (by omega);have hp0:pts=[]:=List.eq_nil_of_length_eq_zero (by omega);have gx:=aL (hg.below cx);have Ze:aB wx.drew ⟨0,0,none⟩ 0 2=some [.int .i64 0,.int .i64 (-1)]:=gx;refine aD ?_;push_cast -dsimp;refine aX (λar=>aB ar ⟨0,0,none⟩ 0 2=some [.int .i64 0,.int .i64 (-1)]) mixed (by kernel_rfl) Ze ?_;push_cast -dsimp[h9,Ze];refine⟨λar h=>by rw[h];exact rfl,?_⟩;refine aF (xt:=28) (n:=2) (by kernel_rfl) Ex.drew rfl (by decide) (by simp;exact⟨rfl,rfl⟩) ?_;intro w9 mC;have E9:aO w9 w1.heap.size 28 [.int .i64 0,.int .i64 (-1)]:=mC.aN;have dE:aB w9 ⟨w1.heap.size,0,none⟩ 0 2=some [.int .i64 0,.int .i64 (-1)]:=E9.aB;have k9:Kept (λi=>i=w1.heap.size) wx w9:=(Kept.refl (λi=>i=w1.heap.size) wx).drew.trans mC.kept (λi _ h=>h);have Wq:=cx.trans (k9.below (B:=w.heap.size) cx.size (λi h=>by omega));refine⟨aL (hg.below Wq),?_⟩;push_cast -dsimp[dE];refine cC ?_;push_cast -dsimp[dE];refine⟨?_,Wq⟩;have sr:=hO.ak k9 (λg hg hh=>by have:=(hO.block g hg).1;have hh:g=w1.heap.size:=hh;omega);have cg:VY (aZ nm) pts f.rules f.els i=jx (aZ nm) pts f.rules f.els:=by unfold jx;rw[if_pos hp0,wC];rfl
   rw[cg]at sr;unfold IL;rw[oJ];exact⟨nm,_,jR,rfl,by rw[cg];exact sr.mono (by have:=c8.size;omega)⟩
  have hp0:pts≠[]:=λh=>by rw[h]at h0 hi NK;simp at h0 hi NK;omega
  have gx:=aL (hg.below cx);have Ze:aB wx.drew ⟨0,0,none⟩ 0 2=some [.int .i64 0,.int .i64 (-1)]:=gx;refine aD ?_;push_cast -dsimp;refine aX (λar=>aB ar ⟨0,0,none⟩ 0 2=some [.int .i64 0,.int .i64 (-1)]) mixed (by kernel_rfl) Ze ?_;push_cast -dsimp[h9,Ze];refine⟨λar h=>by rw[h];exact rfl,?_⟩;refine aF (xt:=28) (n:=2) (by kernel_rfl) Ex.drew rfl (by decide) (by simp;exact⟨rfl,rfl⟩) ?_;intro w9 mC;have E9:aO w9 w1.heap.size 28 [.int .i64 0,.int .i64 (-1)]:=mC.aN;have dE:aB w9 ⟨w1.heap.size,0,none⟩ 0 2=some [.int .i64 0,.int .i64 (-1)]:=E9.aB;have k9:Kept (λi=>i=w1.heap.size) wx w9:=(Kept.refl (λi=>i=w1.heap.size) wx).drew.trans mC.kept (λi _ h=>h);have Wq:=cx.trans (k9.below (B:=w.heap.size) cx.size (λi h=>by omega));refine⟨aL (hg.below Wq),?_⟩;push_cast -dsimp[dE];refine cC ?_;push_cast -dsimp[dE];refine⟨?_,Wq⟩;have sr:=hO.ak k9 (λg hg hh=>by have:=(hO.block g hg).1;have hh:g=w1.heap.size:=hh;omega);have cg:VY (aZ nm) pts f.rules f.els i=jx (aZ nm) pts f.rules f.els:=by unfold jx VY;rw[if_neg hp0,show i=pts.length+1 by omega]
  rw[cg]at sr;unfold IL;rw[oJ];exact⟨nm,_,jR,rfl,by rw[cg];exact sr.mono (by have:=c8.size;omega)⟩
end Go.Proofs.YtodeeahdhnjpkaaGreatDoor
end
section
namespace Cae
theorem qf {c:UInt8}{tl:List UInt8}(r:List UInt8){n p:Nat}(hu:usize c.toNat=n)(hl:tl.length+1=n)(hr:sM tl (iv n c.toNat)=some p)(hb:¬sL n p):cG (c::tl++r)=(p,n):=by
 rw[List.cons_append];unfold cG;dsimp only;rw[hu,if_neg (by simp only[List.length_cons,List.length_append];omega)];have e:List.drop 1 (List.take n (c::(tl++r)))=tl:=by
  rw[<-hl,List.take_succ_cons,List.drop_succ_cons,List.drop_zero,List.take_left]
 rw[e,hr];dsimp only;rw[if_neg hb]
theorem nN {x:Nat}(h:x<64):(vw (128+x)).toNat / 64=2/\(vw (128+x)).toNat % 64=x:=by
 rw[cI (by omega)];omega
theorem KU {p:Nat}(r:List UInt8)(h:jz p):cG (eu p++r)=(p,(eu p).length):=by
 obtain⟨h0,h1,h2⟩:=h;unfold eu;by_cases c1:p<128
 ·rw[if_pos c1];refine qf r (n:=1) (by rw[cI (by omega)];unfold usize;rw[if_pos c1]) rfl (by rw[cI (by omega)];rfl) (by unfold sL od;simp;omega)
 rw[if_neg c1];by_cases c2:p<2048
 ·rw[if_pos c2];refine qf r (n:=2) (by rw[cI (by omega)];unfold usize;rw[if_neg (by omega),if_pos (by omega)]) rfl ?_ (by unfold sL od;simp;omega);have t1:=nN (x:=p % 64) (by omega);rw[cI (by omega),sM,if_pos t1.1,sM,t1.2];simp only[iv];congr 1;simp;omega
 rw[if_neg c2];by_cases c3:p<65536
 ·rw[if_pos c3];refine qf r (n:=3) (by rw[cI (by omega)];unfold usize;rw[if_neg (by omega),if_neg (by omega),if_pos (by omega)]) rfl ?_ (by unfold sL od;simp;omega);have t1:=nN (x:=p % 64) (by omega);have t2:=nN (x:=p / 64 % 64) (by omega);rw[cI (by omega),sM,if_pos t2.1,sM,if_pos t1.1,sM,t1.2,t2.2];simp only[iv];congr 1;simp;omega
 rw[if_neg c3];refine qf r (n:=4) (by rw[cI (by omega)];unfold usize;rw[if_neg (by omega),if_neg (by omega),if_neg (by omega),if_pos (by omega)]) rfl ?_ (by unfold sL od;simp;omega);have t1:=nN (x:=p % 64) (by omega);have t2:=nN (x:=p / 64 % 64) (by omega);have t3:=nN (x:=p / 4096 % 64) (by omega);rw[cI (by omega),sM,if_pos t3.1,sM,if_pos t2.1,sM,if_pos t1.1,sM,t1.2,t2.2,t3.2];simp only[iv];congr 1;simp;omega
theorem mr {c:UInt8}{n:Nat}(h:n=c.toNat):vw n=c:=by
 subst h;simp[vw]
theorem Vf (c:Nat):(usize c=1/\c<128)\/(usize c=2/\194<=c/\c<224)\/(usize c=3/\224<=c/\c<240)\/(usize c=4/\240<=c/\c<245)\/usize c=0:=by
 unfold usize;grind
theorem Ae {s:List UInt8}(h:(cG s).2≠0):eu (cG s).1=s.take (cG s).2/\jz (cG s).1:=by
 cases s with
 | nil=>exact absurd rfl h
 | cons c s =>
  by_cases h0:usize c.toNat=0\/(c::s).length<usize c.toNat
  ·exact absurd (by unfold cG;dsimp only;rw[if_pos h0]) h
  have h1:usize c.toNat≠0:=λe=>h0 (.inl e);have h2:usize c.toNat<=(c::s).length:=Nat.le_of_not_lt λe=>h0 (.inr e);cases hr:sM (((c::s).take (usize c.toNat)).drop 1) (iv (usize c.toNat) c.toNat) with
  | none=>rw[vO h1 h2 hr]at h;exact absurd rfl h
  | some p =>
   rw[vQ h1 h2 hr]at h ⊢
   by_cases hb:sL (usize c.toNat) p
   ·rw[if_pos hb]at h;exact absurd rfl h
   rw[if_neg hb];dsimp only;have pW:=hb;unfold sL at hb;simp only[not_or,Nat.not_lt]at hb;obtain⟨de,eW,ft⟩:=hb;refine⟨?_,by unfold jz;omega⟩;rcases Vf c.toNat with ⟨e,l1⟩|⟨e,l1,l2⟩|⟨e,l1,l2⟩|⟨e,l1,l2⟩|e
   ·rw[e]at hr ⊢
    simp[sM,iv]at hr;subst hr;unfold eu;rw[if_pos l1,mr rfl];rfl
   ·rw[e]at hr de h2 ⊢
    match s,h2 with
    | b1::r,_ =>
     simp[sM,iv]at hr;obtain⟨k1,hp⟩:=hr;simp[od]at de;have q1:=b1.toNat_lt;unfold eu;rw[if_neg (by omega),if_pos (by omega),mr (c:=c) (by omega),mr (c:=b1) (by omega)];rfl
   ·rw[e]at hr de h2 ⊢
    match s,h2 with
    | b1::b2::r,_ =>
     simp[sM,iv]at hr;obtain⟨k1,k2,hp⟩:=hr;simp[od]at de;have q1:=b1.toNat_lt;have q2:=b2.toNat_lt;unfold eu;rw[if_neg (by omega),if_neg (by omega),if_pos (by omega),mr (c:=c) (by omega),mr (c:=b1) (by omega),mr (c:=b2) (by omega)];rfl
   ·rw[e]at hr de h2 ⊢
    match s,h2 with
    | b1::b2::b3::r,_ =>
     simp[sM,iv]at hr;obtain⟨k1,k2,k3,hp⟩:=hr;simp[od]at de;have q1:=b1.toNat_lt;have q2:=b2.toNat_lt;have q3:=b3.toNat_lt;unfold eu;rw[if_neg (by omega),if_neg (by omega),if_neg (by omega),mr (c:=c) (by omega),mr (c:=b1) (by omega),mr (c:=b2) (by omega),mr (c:=b3) (by omega)];rfl
   exact absurd e h1
def Dm (q:Int):List UInt8:=if jz q then eu q.toNat else []
theorem Ve (q:Int):Dm q=[]↔¬jz q:=by
 unfold Dm;split
 ·rename_i h
  have:=(Dl q.toNat).1;constructor
  ·intro h0;rw[h0]at this;simp at this
  intro h0;exact absurd h h0
 rename_i h;exact⟨λ_=>h,λ_=>rfl⟩
def di (s:List UInt8):Nat->Nat
 | 0=>0
 | 1=>(s.getD 0 0).toNat
 | n+2=>di s (n+1)*64+(s.getD (n+1) 0).toNat % 64
def U8 (n p:Nat):Nat:=if n=1 then p else p % 2 ^ (5*n+1)
theorem D3 (s:List UInt8):∀n,1<=n->di s n<256*64 ^ (n-1)
 | 1,_=>by have:=(s.getD 0 0).toNat_lt;simp only[di];omega
 | n+2,_=>by
  have:=D3 s (n+1) (by omega);simp only[di,Nat.add_sub_cancel]at this ⊢
  rw[show n+2-1=n+1 by omega,Nat.pow_succ]
  omega
theorem Oz {s l:List UInt8}{n i:Nat}(h:s.take n=l)(hi:i<l.length):s.getD i 0=l.getD i 0:=by
 subst h;rw[List.length_take]at hi;simp[List.getD_eq_getElem?_getD,List.getElem?_take,show i<n by omega]
theorem L0 {s:List UInt8}{p n:Nat}(h:s.take n=eu p)(hp:jz (p:Int))(hn:n<=s.length):U8 n (di s n)=p:=by
 have hl:n=(eu p).length:=by rw[<-h,List.length_take];omega
 obtain⟨hp0,NO,NP⟩:=hp;have g:=λi hi=>Oz (i:=i) h hi;unfold eu at h hl g;split at h
 ·rename_i c;rw[if_pos c]at hl g;subst hl;simp only[List.length_cons,List.length_nil]at g ⊢
  have g0:=g 0 (by omega);simp only[List.getD_cons_zero]at g0;simp only[di,U8,if_true,g0];exact cI (by omega)
 rename_i c;rw[if_neg c]at hl g;split at h
 ·rename_i c1;rw[if_pos c1]at hl g;subst hl;simp only[List.length_cons,List.length_nil]at g ⊢
  have g0:=g 0 (by omega);have g1:=g 1 (by omega);simp only[List.getD_cons_zero,List.getD_cons_succ]at g0 g1;simp only[di,U8,g0,g1,cI (show 192+p / 64<256 by omega),cI (show 128+p % 64<256 by omega)]
  rw[if_neg (by omega)];simp only[Nat.zero_add,Nat.reduceAdd,Nat.reduceMul,Nat.reducePow];omega
 rename_i c1;rw[if_neg c1]at hl g;split at h
 ·rename_i c2;rw[if_pos c2]at hl g;subst hl;simp only[List.length_cons,List.length_nil]at g ⊢
  have g0:=g 0 (by omega);have g1:=g 1 (by omega);have g2:=g 2 (by omega);simp only[List.getD_cons_zero,List.getD_cons_succ]at g0 g1 g2;simp only[di,U8,g0,g1,g2,cI (show 224+p / 4096<256 by omega),cI (show 128+p / 64 % 64<256 by omega),cI (show 128+p % 64<256 by omega)]
  rw[if_neg (by omega)];simp only[Nat.zero_add,Nat.reduceAdd,Nat.reduceMul,Nat.reducePow];omega
 rename_i c2;rw[if_neg c2]at hl g;subst hl;simp only[List.length_cons,List.length_nil]at g ⊢
 have g0:=g 0 (by omega);have g1:=g 1 (by omega);have g2:=g 2 (by omega);have g3:=g 3 (by omega);simp only[List.getD_cons_zero,List.getD_cons_succ]at g0 g1 g2 g3;simp only[di,U8,g0,g1,g2,g3,cI (show 240+p / 262144<256 by omega),cI (show 128+p / 4096 % 64<256 by omega),cI (show 128+p / 64 % 64<256 by omega),cI (show 128+p % 64<256 by omega)]
 rw[if_neg (by omega)];simp only[Nat.zero_add,Nat.reduceAdd,Nat.reduceMul,Nat.reducePow];omega
theorem L3 {s:List UInt8}{n:Nat}(h1:1<=n)(hn:n<=s.length):Dm (U8 n (di s n):Nat)=s.take n↔(cG s).2=n:=by
 constructor
 ·intro h;unfold Dm at h;split at h
  ·rename_i cD;have hl:=congrArg List.length h;rw[List.length_take]at hl;have e:s=eu (U8 n (di s n))++s.drop n:=by
    rw[Int.toNat_natCast]at h;rw[h,List.take_append_drop]
   have:=KU (s.drop n) cD;rw[<-e]at this;rw[this];simp only[Int.toNat_natCast]at hl;omega
  have:=congrArg List.length h;simp only[List.length_nil,List.length_take]at this;omega
 intro h;obtain⟨he,cD⟩:=Ae (s:=s) (by omega);rw[h]at he;have hq:=L0 he.symm cD hn;rw[hq];unfold Dm;rw[if_pos cD,Int.toNat_natCast];exact he
theorem L7 {s:List UInt8}{n:Nat}(hn:n<=s.length)(h1:1<=n)(h:(cG s).2=n):(cG s).1=U8 n (di s n):=by
 obtain⟨he,cD⟩:=Ae (s:=s) (by omega);rw[h]at he;exact(L0 he.symm cD hn).symm
end Cae
end
section
namespace Go.Proofs.YtodeeahdhnjpkaaGreatDoor
open Go.Vc Go.Proofs Go.RowKit Cae
attribute [local irreducible] cw ag aq a8 runK bD Sl Vc.Own vc aW cN ai
theorem qe {p:Nat}:(p<128->(eu p).length=1)/\(¬p<128->p<2048->(eu p).length=2)/\(¬p<128->¬p<2048->p<65536->(eu p).length=3)/\(¬p<128->¬p<2048->¬p<65536->(eu p).length=4):=by
 unfold eu;refine⟨λh=>?_,λh h1=>?_,λh h1 h2=>?_,λh h1 h2=>?_⟩<;>simp[*]
theorem aE7 {p:Nat}(h:p<128):cJ [(0,.int .u8 (IntKind.u8.wrap (p:Int)))]=(eu p).flatMap si:=by
 simp only[eu,if_pos h,cJ,dD,List.flatMap_cons,List.flatMap_nil,si,List.append_nil];rw[iH,cI (by omega),Nat.mod_eq_of_lt (by omega)]
theorem VM (a b:Nat):((a:Int).tmod (b:Int))=((a % b:Nat):Int):=by
 rw[Int.tmod_eq_emod_of_nonneg (Int.natCast_nonneg _)];rfl
theorem jk (p i:Nat)(hp:p<=1114111)(hi:i<=2)(a:Addr)(w:World)(hc:w.cell? a=some (.int .i64 p)) :
  bD Tryz.prog 72 [.int .i64 i,.pointer (some a)] w λv w'=>v=.int .u8 (vw (128+p / 2 ^ (6*i) % 64)).toNat/\w'=w:=by
 refine aE Tryz.func72 rfl (by kernel_rfl) [3] rfl ?_;push_cast -dsimp(maxSteps:=4000000) [Tryz.ntmps72];push_cast -dsimp[hc];have e:((p:Int).fdiv (2 ^ min (6*(i:Int)).toNat IntKind.i64.bits))=((p / 2 ^ (6*i):Nat):Int):=kB (k:=6*i) (by omega) (by show 6*i<=64;omega)
 rw[e];rw[show (64:Int)=((64:Nat):Int) from rfl,VM]
 have:=Nat.mod_lt (p / 2 ^ (6*i)) (show 0<64 by omega)
 generalize p / 2 ^ (6*i) % 64=q at this ⊢
 rw[show (128:Int)+(q:Int)=((128+q:Nat):Int) by omega,iH,cI (by omega),Nat.mod_eq_of_lt (by omega)]
 exact⟨⟨by omega,by omega⟩,by omega,⟨by omega,by omega⟩,rfl⟩
theorem aLE (a b c:Int)(w:World):bD Tryz.prog 73 [.int .i64 a,.int .i64 b,.int .i64 c] w λv w'=>v=.bool (decide (b<=a/\a<=c))/\w'=w:=by
 refine aE Tryz.func73 rfl (by kernel_rfl) [6] rfl ?_;push_cast -dsimp(maxSteps:=4000000) [Tryz.ntmps73];constructor
 ·intro h;simp[h]
 intro h;simp[h]
theorem yr {p:Int}(h:p<0\/1114111<p\/(55296<=p/\p<=57343)):Dm p=[]:=by
 rw[Ve];unfold jz;omega
theorem ZH {p:Nat}(h1:¬1114111<(p:Int))(h2:¬(55296<=(p:Int)/\(p:Int)<=57343)):Dm p=eu p:=by
 unfold Dm;rw[if_pos (by unfold jz;omega),Int.toNat_natCast]
theorem J2 {q k c:Nat}{b:Int}(hb:b.toNat=k)(hk:k<=64)(h:c+q / 2 ^ k<256):IntKind.u8.wrap ((c:Int)+(q:Int).fdiv (2 ^ min b.toNat IntKind.i64.bits))=(((vw (c+q / 2 ^ k)).toNat:Nat):Int):=by
 rw[kB (kd:=.i64) hb hk,show (c:Int)+((q / 2 ^ k:Nat):Int)=((c+q / 2 ^ k:Nat):Int) by omega,iH,cI h,Nat.mod_eq_of_lt h]
theorem aAN {q:Nat}(h0:¬q<128)(h:q<2048):cJ [(0,.int .u8 (IntKind.u8.wrap (192+(q:Int).fdiv (2 ^ min (6:Int).toNat IntKind.i64.bits)))),(1,.int .u8 (vw (128+q / 2 ^ (6*0) % 64)).toNat)]=(eu q).flatMap si:=by
 simp only[eu,if_neg h0,if_pos h,cJ,dD,List.flatMap_cons,List.flatMap_nil,si,List.append_nil]
 have:=J2 (q:=q) (k:=6) (c:=192) (b:=6) rfl (by omega) (by omega);simp only[show ((192:Nat):Int)=192 from rfl]at this
 rw[this];simp
theorem aAO {q:Nat}(h0:¬q<128)(h1:¬q<2048)(h:q<65536):cJ [(0,.int .u8 (IntKind.u8.wrap (224+(q:Int).fdiv (2 ^ min (12:Int).toNat IntKind.i64.bits)))),(1,.int .u8 (vw (128+q / 2 ^ (6*1) % 64)).toNat),(2,.int .u8 (vw (128+q / 2 ^ (6*0) % 64)).toNat)]=(eu q).flatMap si:=by
 simp only[eu,if_neg h0,if_neg h1,if_pos h,cJ,dD,List.flatMap_cons,List.flatMap_nil,si,List.append_nil]
 have:=J2 (q:=q) (k:=12) (c:=224) (b:=12) rfl (by omega) (by omega);simp only[show ((224:Nat):Int)=224 from rfl]at this
 rw[this];simp
theorem aAP {q:Nat}(h0:¬q<128)(h1:¬q<2048)(h2:¬q<65536)(h:q<2097152):cJ [(0,.int .u8 (IntKind.u8.wrap (240+(q:Int).fdiv (2 ^ min (18:Int).toNat IntKind.i64.bits)))),(1,.int .u8 (vw (128+q / 2 ^ (6*2) % 64)).toNat),(2,.int .u8 (vw (128+q / 2 ^ (6*1) % 64)).toNat),(3,.int .u8 (vw (128+q / 2 ^ (6*0) % 64)).toNat)]=(eu q).flatMap si:=by
 simp only[eu,if_neg h0,if_neg h1,if_neg h2,cJ,dD,List.flatMap_cons,List.flatMap_nil,si,List.append_nil]
 have:=J2 (q:=q) (k:=18) (c:=240) (b:=18) rfl (by omega) (by omega);simp only[show ((240:Nat):Int)=240 from rfl]at this
 rw[this];simp
theorem A9 (p:Int)(w:World):bD Tryz.prog 40 [.int .i64 p] w λv w'=>v=str (Dm p)/\Below w.heap.size w w':=by
 refine aE Tryz.func40 rfl (by kernel_rfl) [2] rfl ?_;push_cast -dsimp(maxSteps:=4000000) [Tryz.ntmps40];refine ah ?_;intro w1 au;have c1:=au.cell0;push_cast -dsimp[c1];refine⟨λpG=>⟨λhsm=>?_,λaFZ=>⟨by rw[yr (.inr (.inl aFZ))],au.below⟩⟩,λmA=>⟨by rw[yr (.inl mA)],au.below⟩⟩;refine aA (aLE _ _ _ w1) ?_;rintro _ w2 ⟨rfl,bT⟩;subst bT;push_cast -dsimp[c1];refine⟨λaLq=>⟨by rw[yr (.inr (.inr aLq))],au.below⟩,λaGy=>?_⟩;obtain⟨q,rfl⟩:∃q:Nat,p=q:=⟨p.toNat,by omega⟩;rw[ZH hsm aGy];have Au:=au.size;have kC:∀w3:World,Below w2.heap.size w2 w3->w3.cell? ⟨w.heap.size,0,none⟩=some (.int .i64 q):=λw3 h=>(h.cell (by show w.heap.size<w2.heap.size;omega)).trans c1
 refine⟨λh1=>?_,λh1=>⟨λh2=>?_,λh2=>⟨λh3=>?_,λh3=>?_⟩⟩⟩
 ·refine cY vz rfl rfl (by omega) ?_;intro w3 bO;rw[aE7 (by omega)]at bO;have ho:=bO.own (base:=w2.heap.size) (enc:=si) rfl (qe.1 (by omega)) (λ_=>rfl) (Nat.le_refl _) (by omega);push_cast -dsimp;refine VH (e:=5) (by kernel_rfl) (by kernel_rfl) (by kernel_rfl) ho.sl ?_;push_cast -dsimp;exact au.below.trans (bO.below.mono (by omega))
 ·refine aX (λw'=>Below w2.heap.size w2 w') mixed (by kernel_rfl) (Below.refl _ _).drew ?_;have d1:=kC w2.drew (Below.refl _ _).drew;push_cast -dsimp[d1];refine⟨λar hC=>by rw[kC ar hC];exact rfl,⟨by have:(q:Int).fdiv (2 ^ min 6 IntKind.i64.bits)=((q / 2 ^ 6:Nat):Int):=kB (p:=q) (k:=6) (b:=6) (kd:=.i64) rfl (by decide);omega,by have:(q:Int).fdiv (2 ^ min 6 IntKind.i64.bits)=((q / 2 ^ 6:Nat):Int):=kB (p:=q) (k:=6) (b:=6) (kd:=.i64) rfl (by decide);omega⟩,?_⟩;refine aA (jk q 0 (by omega) (by omega) _ _ d1) ?_;rintro _ w3 ⟨rfl,bO⟩;subst bO;refine⟨(Below.refl _ _).drew,?_⟩;push_cast -dsimp;refine cY vz rfl rfl (by omega) ?_;intro w4 aj;have fo:Below w2.heap.size w2 w4:=(Below.refl _ _).drew.trans aj.below;refine⟨fo,?_⟩;have ho:=aj.own (base:=w2.heap.size) (enc:=si) (l:=eu q) (aAN (by omega) (by omega)) (qe.2.1 (by omega) (by omega)) (λ_=>rfl) (Nat.le_refl _) (by omega);push_cast -dsimp;refine VH (e:=5) (by kernel_rfl) (by kernel_rfl) (by kernel_rfl) ho.sl ?_;refine⟨fo,?_⟩;push_cast -dsimp;exact au.below.trans (fo.mono (by omega))
 ·refine aX (λw'=>Below w2.heap.size w2 w') mixed (by kernel_rfl) (Below.refl _ _).drew ?_;have d1:=kC w2.drew (Below.refl _ _).drew;push_cast -dsimp[d1];refine⟨λar hC=>by rw[kC ar hC];exact rfl,⟨by have:(q:Int).fdiv (2 ^ min 12 IntKind.i64.bits)=((q / 2 ^ 12:Nat):Int):=kB (p:=q) (k:=12) (b:=12) (kd:=.i64) rfl (by decide);omega,by have:(q:Int).fdiv (2 ^ min 12 IntKind.i64.bits)=((q / 2 ^ 12:Nat):Int):=kB (p:=q) (k:=12) (b:=12) (kd:=.i64) rfl (by decide);omega⟩,?_⟩;refine aA (jk q 1 (by omega) (by omega) _ _ d1) ?_;rintro _ w3 ⟨rfl,bO⟩;subst bO;refine⟨(Below.refl _ _).drew,?_⟩;push_cast -dsimp;refine aA (jk q 0 (by omega) (by omega) _ _ d1) ?_;rintro _ w3 ⟨rfl,bO⟩;subst bO;refine⟨(Below.refl _ _).drew,?_⟩;push_cast -dsimp;refine cY vz rfl rfl (by omega) ?_;intro w4 aj;have fo:Below w2.heap.size w2 w4:=(Below.refl _ _).drew.trans aj.below;refine⟨fo,?_⟩;have ho:=aj.own (base:=w2.heap.size) (enc:=si) (l:=eu q) (aAO (by omega) (by omega) (by omega)) (qe.2.2.1 (by omega) (by omega) (by omega)) (λ_=>rfl) (Nat.le_refl _) (by omega);push_cast -dsimp;refine VH (e:=5) (by kernel_rfl) (by kernel_rfl) (by kernel_rfl) ho.sl ?_;refine⟨fo,?_⟩;push_cast -dsimp;exact au.below.trans (fo.mono (by omega))
 refine aX (λw'=>Below w2.heap.size w2 w') mixed (by kernel_rfl) (Below.refl _ _).drew ?_;have d1:=kC w2.drew (Below.refl _ _).drew;push_cast -dsimp[d1];refine⟨λar hC=>by rw[kC ar hC];exact rfl,⟨by have:(q:Int).fdiv (2 ^ min 18 IntKind.i64.bits)=((q / 2 ^ 18:Nat):Int):=kB (p:=q) (k:=18) (b:=18) (kd:=.i64) rfl (by decide);omega,by have:(q:Int).fdiv (2 ^ min 18 IntKind.i64.bits)=((q / 2 ^ 18:Nat):Int):=kB (p:=q) (k:=18) (b:=18) (kd:=.i64) rfl (by decide);omega⟩,?_⟩;refine aA (jk q 2 (by omega) (by omega) _ _ d1) ?_;rintro _ w3 ⟨rfl,bO⟩;subst bO;refine⟨(Below.refl _ _).drew,?_⟩;push_cast -dsimp;refine aA (jk q 1 (by omega) (by omega) _ _ d1) ?_;rintro _ w3 ⟨rfl,bO⟩;subst bO;refine⟨(Below.refl _ _).drew,?_⟩;push_cast -dsimp;refine aA (jk q 0 (by omega) (by omega) _ _ d1) ?_;rintro _ w3 ⟨rfl,bO⟩;subst bO;refine⟨(Below.refl _ _).drew,?_⟩;push_cast -dsimp;refine cY vz rfl rfl (by omega) ?_;intro w4 aj;have fo:Below w2.heap.size w2 w4:=(Below.refl _ _).drew.trans aj.below;refine⟨fo,?_⟩;have ho:=aj.own (base:=w2.heap.size) (enc:=si) (l:=eu q) (aAP (by omega) (by omega) (by omega) (by omega)) (qe.2.2.2 (by omega) (by omega) (by omega)) (λ_=>rfl) (Nat.le_refl _) (by omega);push_cast -dsimp;refine VH (e:=5) (by kernel_rfl) (by kernel_rfl) (by kernel_rfl) ho.sl ?_;refine⟨fo,?_⟩;push_cast -dsimp;exact au.below.trans (fo.mono (by omega))
def found (s:List UInt8)(n:Nat):Nat×Nat:=if (cG s).2≠0/\(cG s).2<n then cG s else (65533,1)
theorem xV {s:List UInt8}{n:Nat}(h1:1<=n):found s (n+1)=if (cG s).2=n then cG s else found s n:=by
 unfold found;split
 ·rename_i h;split
  ·rfl
  rw[if_pos (by omega)]
 rename_i h;split
 ·rename_i hh;omega
 rw[if_neg (by omega)]
theorem Ai {s:List UInt8}{n:Nat}(h:n=5\/s.length<n):found s n=dJ s:=by
 have:=jw s;unfold found dJ;split
 ·rw[if_neg (by omega)]
 rw[if_pos (by omega)]
theorem MX (s:List UInt8)(hs:s.length<1000000)(w:World) :
  bD Tryz.prog 15 [str s] w λv w'=>Vc.Own w.heap.size 108 3 lL w' v (qz 0 s)/\Below w.heap.size w w':=by
 refine aE Tryz.func15 rfl (by kernel_rfl) [2] rfl ?_;push_cast -dsimp(maxSteps:=4000000) [Tryz.ntmps15];refine aM [3,4,5,6,7,8,9,10,11,12,13,14,15,16,17,18,19,20,21,22,23,24,25,26,27,28,29,30,31,32,33,34,35,36,37,38,39,40,41,42,43,44,45,46,47,48,49,50,51,52,53,54,55,56,57,58,59,60,61,62,63,64,65,66,67,68,69,70,71,72,73,74,75] (λz wx=>∃(i:Nat) (acc:List U),z 4=.int .i64 i/\i<=s.length/\acc.length<=i/\acc++qz i (s.drop i)=qz 0 s /\
  Vc.Own w.heap.size 108 3 lL wx (z 3) acc/\Below w.heap.size w wx) (λz _=>s.length-(intOf (z 4)).toNat) ?_ ?_
 ·exact⟨0,[],rfl,Nat.zero_le _,Nat.le_refl _,rfl,Vc.Own.nil (enc:=lL) _ _ (λ_=>rfl) _,Below.refl _ _⟩
 intro z wx hI;obtain⟨i,acc,h4,hi,ha,hd,ho,hb⟩:=hI;push_cast -dsimp[h4];refine⟨λbZ=>?_,λgh=>?_⟩
 ·have dA:s.drop i≠[]:=by intro h;have:=congrArg List.length h;simp only[List.length_drop,List.length_nil]at this;omega
  refine aR (z:=[.int .i64 0,.int .i64 0,.int .i64 0]) (by kernel_rfl) ?_;intro w1 au;push_cast -dsimp;refine aF (n:=3) (by kernel_rfl) au.aN rfl (by simp) (by simp[Value.oneCell']) ?_;intro w2 bT;have jK:aO w2 wx.heap.size 108 [.int .i64 65533,.int .i64 i,.int .i64 1]:=bT.aN;have k2:Kept (λk=>wx.heap.size<=k) wx w2:=(Kept.new au).trans bT.kept (λ_ _ h=>by omega);push_cast -dsimp;refine aM [6,7,8,9,16,17,18,19,20,21,22,23,24,25,26,27,28,29,30,31,32,33,34,35,36,37,38,39,40,41,42,43,44,45,46,47,48,49,50,51,52,53,54,55,56,57,58,59,60,61,62,63,64,65,66,67] (λz' wy=>∃(n:Nat),z' 7=.int .i64 n/\1<=n/\n<=5/\n<=(s.drop i).length+1/\z' 6=.int .i64 (di (s.drop i) (n-1))/\Kept (·=wx.heap.size) w2 wy /\
   aO wy wx.heap.size 108 [.int .i64 (found (s.drop i) n).1,.int .i64 i,.int .i64 (found (s.drop i) n).2]) (λz' _=>5-(intOf (z' 7)).toNat) ?_ ?_
  ·refine⟨1,rfl,by omega,by omega,by omega,rfl,Kept.refl _ _,?_⟩;have:found (s.drop i) 1=(65533,1):=by unfold found;rw[if_neg (by omega)]
   rw[this];exact jK
  intro z' wy hI;obtain⟨n,h7,wH,mT,hnl,h6,hk,hB⟩:=hI;have r8:=D3 (s.drop i) n wH;push_cast -dsimp[h7,h6];have Vv:(s.drop i).length=s.length-i:=List.length_drop;refine⟨λhn4=>⟨⟨by omega,by omega⟩,λNL=>?_,λfN=>?_⟩,λhn4=>?_⟩;rotate_left;·
   have hf:found (s.drop i) n=dJ (s.drop i):=Ai (by omega)
   rw[hf]at hB
   have c1:aB wy ⟨wx.heap.size,0,none⟩ 0 3=some [.int .i64 (dJ (s.drop i)).1,.int .i64 i,.int .i64 (dJ (s.drop i)).2]:=hB.aB
   have cO:=tg (s.drop i) dA
   have qv:=lY (s.drop i)
   have hu:=jw (s.drop i)
   have uo:=ns i (s.drop i) dA
   have kk:Kept (λk=>wx.heap.size<=k) wx wy:=k2.trans hk (λ_ _ h=>by omega)
   have ow:=ho.ak kk (λg hg=>by have:=ho.block g hg;omega)
   have NB:Below wx.heap.size wx wy:=kk.below (Nat.le_refl _) (λ_ h=>h)
   have cp:=Below.own hb NB hb.size
   push_cast -dsimp[c1]
   refine cY pQ rfl rfl (by omega) ?_
   intro w3 bO
   push_cast -dsimp
   refine vt (ys:=[⟨(dJ (s.drop i)).1,i,(dJ (s.drop i)).2⟩]) (enc:=lL) pQ (ow.new bO) (λj u hu=>by simpa using bO.cell hu) (by simp[lL,Value.oneCell']) (by simp only[List.length_cons,List.length_nil];omega) (by have:=cp.size;have:=bO.size;omega) ?_
   intro v' w4 Ht hg4 fo
   have qW:=(hB.below bO.below hB.lt).kept (Kept.grown hg4 (X:=λk=>k≠wx.heap.size) (λk hk hh=>by have:=ow.block k hk;have:=(ho.block k hk);omega)) (by simp)
   have c4:w4.cell? ⟨wx.heap.size,2,none⟩=some (.int .i64 (dJ (s.drop i)).2):=qW.cell (o:=2) rfl
   push_cast -dsimp[c4]
   have hlen:(acc++([⟨(dJ (s.drop i)).1,i,(dJ (s.drop i)).2⟩]:List U)).length=acc.length+1:=by simp only[List.length_append,List.length_cons,List.length_nil]
   refine⟨⟨by omega,by omega⟩,⟨i+(dJ (s.drop i)).2,_,rfl,by omega,by omega,?_,Ht,cp.trans ((bO.below.mono cp.size).trans fo)⟩,by rw[h4];simp only[intOf];omega⟩
   rw[<-hd,uo,List.drop_drop,List.append_assoc];rfl
  ·
   have hf:found (s.drop i) n=dJ (s.drop i):=Ai (by omega)
   rw[hf]at hB
   have c1:aB wy ⟨wx.heap.size,0,none⟩ 0 3=some [.int .i64 (dJ (s.drop i)).1,.int .i64 i,.int .i64 (dJ (s.drop i)).2]:=hB.aB
   have cO:=tg (s.drop i) dA
   have qv:=lY (s.drop i)
   have hu:=jw (s.drop i)
   have uo:=ns i (s.drop i) dA
   have kk:Kept (λk=>wx.heap.size<=k) wx wy:=k2.trans hk (λ_ _ h=>by omega)
   have ow:=ho.ak kk (λg hg=>by have:=ho.block g hg;omega)
   have NB:Below wx.heap.size wx wy:=kk.below (Nat.le_refl _) (λ_ h=>h)
   have cp:=Below.own hb NB hb.size
   push_cast -dsimp[c1]
   refine cY pQ rfl rfl (by omega) ?_
   intro w3 bO
   push_cast -dsimp
   refine vt (ys:=[⟨(dJ (s.drop i)).1,i,(dJ (s.drop i)).2⟩]) (enc:=lL) pQ (ow.new bO) (λj u hu=>by simpa using bO.cell hu) (by simp[lL,Value.oneCell']) (by simp only[List.length_cons,List.length_nil];omega) (by have:=cp.size;have:=bO.size;omega) ?_
   intro v' w4 Ht hg4 fo
   have qW:=(hB.below bO.below hB.lt).kept (Kept.grown hg4 (X:=λk=>k≠wx.heap.size) (λk hk hh=>by have:=ow.block k hk;have:=(ho.block k hk);omega)) (by simp)
   have c4:w4.cell? ⟨wx.heap.size,2,none⟩=some (.int .i64 (dJ (s.drop i)).2):=qW.cell (o:=2) rfl
   push_cast -dsimp[c4]
   have hlen:(acc++([⟨(dJ (s.drop i)).1,i,(dJ (s.drop i)).2⟩]:List U)).length=acc.length+1:=by simp only[List.length_append,List.length_cons,List.length_nil]
   refine⟨⟨by omega,by omega⟩,⟨i+(dJ (s.drop i)).2,_,rfl,by omega,by omega,?_,Ht,cp.trans ((bO.below.mono cp.size).trans fo)⟩,by rw[h4];simp only[intOf];omega⟩
   rw[<-hd,uo,List.drop_drop,List.append_assoc];rfl
  have eI:((i:Int)+(n:Int)-1).toNat=i+(n-1):=by omega
  have eG:s.getD (i+(n-1)) 0=(s.drop i).getD (n-1) 0:=by simp[List.getD_eq_getElem?_getD,List.getElem?_drop]
  have eB:IntKind.i64.wrap ((s.getD ((i:Int)+(n:Int)-1).toNat 0).toNat:Int)=(((s.drop i).getD (n-1) 0).toNat:Int):=by
   rw[eI,eG];exact fW (by have:=((s.drop i).getD (n-1) 0).toNat_lt;omega)
  refine⟨⟨by omega,by omega⟩,⟨by omega,by omega⟩,⟨by omega,by omega⟩,λh1=>⟨λh=>absurd h (by omega),λ_=>⟨λh=>absurd h (by omega),λ_=>?_⟩⟩,λh1=>⟨λ_=>?_,λh=>absurd h (by omega)⟩⟩
  ·rw[eB];have hq:(((s.drop i).getD (n-1) 0).toNat:Int)=((U8 n (di (s.drop i) n):Nat):Int):=by
    have:n=1:=by omega
    subst this;rfl
   have hr:(((s.drop i).getD (n-1) 0).toNat:Int)=((di (s.drop i) n:Nat):Int):=by
    have:n=1:=by omega
    subst this;rfl
   refine aX (λ_=>True) mixed (by kernel_rfl) trivial ?_;push_cast -dsimp;rw[hq];refine aA (A9 _ wy.drew) ?_;rintro _ w3 ⟨rfl,ft⟩;have ft:Below wy.heap.size wy w3:=(Below.refl _ _).drew.trans ft;refine⟨trivial,?_⟩;push_cast -dsimp;have eT:List.drop i (List.take ((i:Int)+(n:Int)).toNat s)=(s.drop i).take n:=by
    rw[List.drop_take,show ((i:Int)+(n:Int)).toNat-i=n by omega]
   rw[eT];have Sj:=L3 (s:=s.drop i) wH (by omega);have Ip:=hB.below ft hB.lt;have Pr:=xV (s:=s.drop i) wH;refine⟨⟨by omega,by omega⟩,⟨by omega,by omega,by omega⟩,λNX=>?_,λaBX=>⟨⟨by omega,by omega⟩,⟨n+1,by simp,by omega,by omega,by omega,?_,?_,?_⟩,?_⟩⟩
   ·have hy:=Sj.1 NX;refine aC Ip (by simp) rfl ?_;intro w4 aj;push_cast -dsimp;refine aC aj.aN (by simp) rfl ?_;intro w5 bW;push_cast -dsimp;rw[if_pos hy]at Pr;have qw:=L7 (s:=s.drop i) (n:=n) (by omega) wH hy;refine⟨⟨by omega,by omega⟩,⟨n+1,by simp,by omega,by omega,by omega,?_,?_,?_⟩,?_⟩
    ·first|(rw[Nat.add_sub_cancel,<-hr];done)|(rw[Nat.add_sub_cancel,<-hr,hq])
    ·exact(hk.trans (Kept.aJ ft (X:=λ_=>False) (λk hk hl=>by omega)) (λ_ _ h=>h.elim)).trans (aj.kept.trans bW.kept (λ_ _ h=>h)) (λ_ _ h=>h)
    ·rw[Pr,qw,hy];exact bW.aN
    rw[h7];simp only[intOf];omega
   ·first|(rw[Nat.add_sub_cancel,<-hr];done)|(rw[Nat.add_sub_cancel,<-hr,hq])
   ·exact(hk.trans (Kept.aJ ft (X:=λ_=>False) (λk hk hl=>by omega)) (λ_ _ h=>h.elim))
   ·rw[Pr,if_neg (λh=>aBX (Sj.2 h))];exact Ip
   rw[h7];simp only[intOf];omega
  have e2:IntKind.i64.wrap (((di (s.drop i) (n-1):Nat):Int)*2 ^ min (6:Int).toNat IntKind.i64.bits)+eJ .and .i64 (IntKind.i64.wrap ((s.getD ((i:Int)+(n:Int)-1).toNat 0).toNat:Int)) 63=((di (s.drop i) n:Nat):Int):=by
   obtain⟨m,rfl⟩:∃m,n=m+2:=⟨n-2,by omega⟩;have hm:=D3 (s.drop i) (m+1) (by omega);have h64:64 ^ m<=64 ^ 2:=Nat.pow_le_pow_right (by omega) (by omega);simp only[Nat.add_sub_cancel]at hm;rw[eB,show (63:Int)=((2 ^ 6-1:Nat):Int) from rfl,jX (by have:=((s.drop i).getD (m+2-1) 0).toNat_lt;omega) (by omega),lf]
   rw[show m+2-1=m+1 by omega,De (k:=6) rfl (by omega) (by omega)]
   simp only[di];omega
  have e2:IntKind.i64.wrap (((di (s.drop i) (n-1):Nat):Int)*2 ^ min 6 IntKind.i64.bits)+eJ .and .i64 (IntKind.i64.wrap ((s.getD ((i:Int)+(n:Int)-1).toNat 0).toNat:Int)) 63=((di (s.drop i) n:Nat):Int):=e2;rw[e2];have NR:di (s.drop i) n<9223372036854775808:=by
   have h64:64 ^ (n-1)<=64 ^ 3:=Nat.pow_le_pow_right (by omega) (by omega);omega
  refine⟨⟨by omega,by omega⟩,λ_=>?_,λh=>absurd h (by omega)⟩;have e3:IntKind.i64.wrap (1*2 ^ min (5*(n:Int)+1).toNat IntKind.i64.bits)=((2 ^ (5*n+1):Nat):Int):=by
   have hp:2 ^ (5*n+1)<=2 ^ 21:=Nat.pow_le_pow_right (by omega) (by omega)
   have:=De (p:=1) (k:=5*n+1) (b:=5*(n:Int)+1) (by omega) (by omega) (by omega);simpa using this
  have hq:eJ .and .i64 ((di (s.drop i) n:Nat):Int) (IntKind.i64.wrap (1*2 ^ min (5*(n:Int)+1).toNat IntKind.i64.bits)-1)=((U8 n (di (s.drop i) n):Nat):Int):=by
   have hp:2 ^ (5*n+1)<=2 ^ 21:=Nat.pow_le_pow_right (by omega) (by omega);have hp0:0<2 ^ (5*n+1):=Nat.pow_pos (by omega);rw[e3,show ((2 ^ (5*n+1):Nat):Int)-1=((2 ^ (5*n+1)-1:Nat):Int) by omega,jX NR (by omega),lf]
   unfold U8;rw[if_neg (by omega)]
  have hr:((di (s.drop i) n:Nat):Int)=((di (s.drop i) n:Nat):Int):=rfl;refine⟨⟨by omega,by omega⟩,⟨by omega,by omega⟩,by omega,?_,?_⟩
  ·rw[e3];have hp:2 ^ (5*n+1)<=2 ^ 21:=Nat.pow_le_pow_right (by omega) (by omega);generalize 2 ^ (5*n+1)=m at hp ⊢
   omega
  refine aX (λ_=>True) mixed (by kernel_rfl) trivial ?_;push_cast -dsimp;rw[hq];refine aA (A9 _ wy.drew) ?_;rintro _ w3 ⟨rfl,ft⟩;have ft:Below wy.heap.size wy w3:=(Below.refl _ _).drew.trans ft;refine⟨trivial,?_⟩;push_cast -dsimp;have eT:List.drop i (List.take ((i:Int)+(n:Int)).toNat s)=(s.drop i).take n:=by
   rw[List.drop_take,show ((i:Int)+(n:Int)).toNat-i=n by omega]
  rw[eT];have Sj:=L3 (s:=s.drop i) wH (by omega);have Ip:=hB.below ft hB.lt;have Pr:=xV (s:=s.drop i) wH;refine⟨⟨by omega,by omega⟩,⟨by omega,by omega,by omega⟩,λNX=>?_,λaBX=>⟨⟨by omega,by omega⟩,⟨n+1,by simp,by omega,by omega,by omega,?_,?_,?_⟩,?_⟩⟩
  ·have hy:=Sj.1 NX;refine aC Ip (by simp) rfl ?_;intro w4 aj;push_cast -dsimp;refine aC aj.aN (by simp) rfl ?_;intro w5 bW;push_cast -dsimp;rw[if_pos hy]at Pr;have qw:=L7 (s:=s.drop i) (n:=n) (by omega) wH hy;refine⟨⟨by omega,by omega⟩,⟨n+1,by simp,by omega,by omega,by omega,?_,?_,?_⟩,?_⟩
   ·first|(rw[Nat.add_sub_cancel,<-hr];done)|(rw[Nat.add_sub_cancel,<-hr,hq])
   ·exact(hk.trans (Kept.aJ ft (X:=λ_=>False) (λk hk hl=>by omega)) (λ_ _ h=>h.elim)).trans (aj.kept.trans bW.kept (λ_ _ h=>h)) (λ_ _ h=>h)
   ·rw[Pr,qw,hy];exact bW.aN
   rw[h7];simp only[intOf];omega
  ·first|(rw[Nat.add_sub_cancel,<-hr];done)|(rw[Nat.add_sub_cancel,<-hr,hq])
  ·exact(hk.trans (Kept.aJ ft (X:=λ_=>False) (λk hk hl=>by omega)) (λ_ _ h=>h.elim))
  ·rw[Pr,if_neg (λh=>aBX (Sj.2 h))];exact Ip
  rw[h7];simp only[intOf];omega
 have e:s.drop i=[]:=List.drop_eq_nil_of_le (by omega);rw[e,tc,List.append_nil]at hd;rw[<-hd];exact⟨ho,hb⟩
theorem KB (l m:List Nat)(hl:l.length<1000000000)(X Y:Nat->Prop)(lv mv:Value)(w:World)(hlv:Sl X 1 (En br) w lv l)(hmv:Sl Y 1 (En br) w mv m) :
  bD Tryz.prog 18 [lv,mv] w λr w'=>r=.bool (decide (l=m))/\Below w.heap.size w w':=by
 obtain⟨a,c,rfl,hc⟩:=hlv.shape;obtain⟨b,d,rfl,hd⟩:=hmv.shape;refine aE Tryz.func18 rfl (by kernel_rfl) [4] rfl ?_;push_cast -dsimp(maxSteps:=4000000) [Tryz.ntmps18];refine⟨λdA=>?_,λheq=>?_⟩
 ·refine⟨?_,Below.refl _ _⟩;congr 1;exact(decide_eq_false (λh=>by subst h;omega)).symm
 have hlm:l.length=m.length:=by omega
 refine aM [4,5,11,12,13,14,15,16,17,18,19,20,21,22,23,24,25] (λz wx=>∃(j:Nat),z 5=.int .i64 j/\j<=l.length/\l.take j=m.take j/\Below w.heap.size w wx) (λz _=>l.length-(intOf (z 5)).toNat) ?_ ?_
 ·exact⟨0,rfl,Nat.zero_le _,by simp,Below.refl _ _⟩
 intro z wx hI;obtain⟨j,h5,hj,rp,hb⟩:=hI;push_cast -dsimp[h5];refine⟨λbZ=>?_,λgh=>?_⟩
 ·have hex:∃(x y:Nat) (g o g' o':Nat),l[j]?=some x/\m[j]?=some y/\a=some ⟨g,o,none⟩/\b=some ⟨g',o',none⟩/\wx.drew.cell? ⟨g,o+j,none⟩=some (.int .i64 x)/\wx.drew.cell? ⟨g',o'+j,none⟩=some (.int .i64 y):=by
   obtain⟨x,hx,_⟩:=bK (l:=l) (i:=j) (by omega);obtain⟨y,hy,_⟩:=bK (l:=m) (i:=j) (by omega);have h1:=(hlv.below hb).get hx;have h2:=(hmv.below hb).get hy;obtain⟨g,o,e,_,hcx⟩:=h1;obtain⟨g',o',e',_,hcy⟩:=h2;exact⟨x,y,g,o,g',o',hx,hy,e,e',by simpa using hcx 0 _ rfl,by simpa using hcy 0 _ rfl⟩
  obtain⟨x,y,g,o,g',o',hx,hy,he,Zn,cx,cy⟩:=hex;refine aX (λw'=>w'=wx.drew) mixed (by kernel_rfl) rfl ?_;push_cast -dsimp[dF he,dF Zn,cx,cy];refine⟨⟨by omega,by omega⟩,λar hC=>by rw[hC,cx];exact rfl,⟨by omega,by omega⟩,λar hC=>by rw[hC,cy];exact rfl,?_⟩;refine⟨λdA=>⟨?_,hb.drew⟩,λheq=>?_⟩
  ·congr 1;refine(decide_eq_false (λh=>?_)).symm;subst h;rw[hx]at hy;cases hy;exact dA rfl
  have exy:x=y:=by omega
  subst exy;refine⟨⟨by omega,by omega⟩,⟨j+1,rfl,by omega,?_,hb.drew⟩,by rw[h5];simp only[intOf];omega⟩;rw[List.take_add_one,List.take_add_one,rp,hx,hy]
 refine⟨?_,hb⟩;rw[List.take_of_length_le (by omega),List.take_of_length_le (by omega)]at rp;congr 1;exact(decide_eq_true rp).symm
theorem ZA (n:Nat):∀(s:List UInt8) (a:Nat),s.length=n->∀u∈qz a s,u.p<=1114111:=by
 induction n using Nat.strongRecOn with
 | _ n ih =>
  intro s a hn u hu;by_cases h:s=[]
  ·subst h;rw[tc]at hu;cases hu
  rw[ns a s h]at hu;rcases List.mem_cons.1 hu with rfl|hu
  ·show (dJ s).1<=1114111
   unfold dJ
   have:=(jw s).2.2.2;split<;>simp<;>omega
  have h1:=lY s;have h2:0<s.length:=List.length_pos_iff.2 h;exact ih (s.drop (dJ s).2).length (by simp;omega) _ _ rfl u hu
theorem aC2 (t:List UInt8):∀p∈an (qz 0 t),0<=p/\p<=1114111:=by
 intro p hp;unfold an at hp;obtain⟨u,hu,rfl⟩:=List.mem_map.1 hp
 have:=ZA t.length t 0 rfl u hu;omega
def YR (f:dQ):bP:=match fA [] f.bJ with
 | .ok nm=>nm
 | .error _=>[]
noncomputable def IZ (f:dQ)(pts:List Int):List Nat:=match kl f with
 | some _=>[]
 | none=>jx (aZ (YR f)) pts f.rules f.els
def Il (f:dQ):Int×Int:=match kl f with
 | some e=>(e.1,(e.2:Int))
 | none=>(0,-1)
theorem Qn (f:dQ)(pts:List Int):(IZ f pts).length<=pts.length+1:=by
 unfold IZ;split
 ·exact Nat.zero_le _
 unfold jx;split
 ·exact Nat.zero_le _
 have:=List.length_filter_le (Hz (aZ (YR f)) pts f.rules f.els) (List.range (pts.length+1));rw[List.length_range]at this;exact this
theorem Y8 {B:Nat}{f:dQ}{pts:List Int}{r:Value}{w:World}(h:IL B f pts r w):∃v,r=.tuple #[v,.agg #[.int .i64 (Il f).1,.int .i64 (Il f).2]]/\Sl (·<B) 1 (En br) w v (IZ f pts):=by
 unfold IL at h;unfold Il IZ YR;cases hc:kl f with
 | some e=>rw[hc]at h;exact⟨_,h,Sl.YP⟩
 | none =>
  rw[hc]at h;obtain⟨nm,v,hn,rfl,hO⟩:=h;rw[hn];exact⟨v,rfl,hO.sl⟩
theorem aAI {B:Nat}{f:dQ}{us:List U}{r:Value}{w:World}(h:Lt B f us r w):∃v ev,r=.tuple #[v,ev]/\Sl (λ_=>False) 1 (En br) w v (IZ f (an us))/\IG w ev (Il f).1 (Il f).2:=by
 unfold Lt at h;unfold Il IZ YR;cases hc:kl f with
 | some e =>
  rw[hc]at h;obtain⟨v,rfl,hE⟩:=h;obtain⟨c,e⟩:=e;obtain⟨b,_,rfl,hB⟩:=hE;exact⟨_,_,rfl,Sl.YP,.inr (.at_ b _ _ (hB.cell rfl) (hB.cell rfl))⟩
 | none =>
  rw[hc]at h;obtain⟨nm,v,hn,rfl,hO⟩:=h;rw[hn];exact⟨v,_,rfl,hO.sl.weaken (λ_ h=>h.elim),.inl ⟨rfl,rfl,rfl⟩⟩
theorem gn.eZ {X:Nat->Prop}{w:World}{a1 a2:Option Addr}{n1 c1 n2 c2:Nat}{e:Bool}{f:dQ}(h:gn X w (.agg #[.slice a1 n1 c1,.slice a2 n2 c2,.bool e]) f):∃rs,n2=f.rules.length/\rs.length=f.rules.length/\Sl X 4 (En gv) w (.slice a2 n2 c2) rs/\dd (kG X w) rs f.rules:=by
 obtain⟨cv,rv,cs,rs,he,S1,S2,A1,A2⟩:=h;have h2:rv=.slice a2 n2 c2:=by
  have:=Value.agg.inj he;simp at this;exact this.2.1.symm
 subst h2;obtain⟨a,c,hs,_⟩:=S2.shape;have hl:=A2.len;cases hs;exact⟨rs,hl,hl,S2,A2⟩
theorem mn (v mv lv:Value)(us:List U)(X:Nat->Prop)(place:Int)(back:Bool)(w:World)(hU:Sl X 3 (En lL) w lv us)(hp:place<0\/(us.length:Int)<place) :
  bD Tryz.prog 20 [v,mv,lv,.int .i64 place,.bool back] w λr w'=>r=.bool false/\w'=w:=by
 obtain⟨la,lc,rfl,Ar⟩:=hU.shape;refine aE Tryz.func20 rfl (by kernel_rfl) [10] rfl ?_;push_cast -dsimp(maxSteps:=4000000) [Tryz.ntmps20];intro h0 h1;exfalso;omega
theorem DQ (s text:List UInt8)(place:Int)(w:World)(hg:Gr w)(hL:wU w)(hE:kX w)(hn:14<=w.heap.size):bD Tryz.prog 4 [str s,str text,.int .i64 place] w λr w'=>r=.bool true/\Below w.heap.size w w':=by
 refine Aj Tryz.func4 rfl (by kernel_rfl) [6] rfl ?_;push_cast -dsimp(maxSteps:=4000000) [Tryz.ntmps4];refine aD ?_;push_cast -dsimp;refine aD ?_;push_cast -dsimp;refine⟨λjQ=>⟨λh21=>Below.refl _ _,λh21=>?_⟩,λjQ=>Below.refl _ _⟩;have hfo:=Mo s (by omega);refine aD ?_;push_cast -dsimp;refine aA (Jv s (by omega) w hg) ?_;rintro r wa ⟨hR,ba⟩;obtain⟨v,rfl,hv⟩:=Ya hR;obtain⟨cv,rv,⟨a1,n1,c1,rfl⟩,⟨a2,n2,c2,rfl⟩,rfl,hF⟩:=hv;have za:=ba.size;have hF:=hF.aLS;push_cast -dsimp;refine aR (z:=[.slice none 0 0,.slice none 0 0,.bool false]) (by kernel_rfl) ?_;intro wb cX;have zb:=cX.size;push_cast -dsimp;refine aR (z:=[.int .i64 0,.int .i64 0]) (by kernel_rfl) ?_;intro wc lF;have zc:=lF.size;push_cast -dsimp;refine aF (xt:=25) (n:=3) (by kernel_rfl) (cX.aN.below lF.below (by omega)) rfl (by decide) (by simp;exact⟨rfl,rfl,rfl⟩) ?_;intro wd ur;have zd:=ur.size;push_cast -dsimp;refine aF (xt:=28) (n:=2) (by kernel_rfl) (aO.kept lF.aN ur.kept (by omega)) rfl (by decide) (by simp;exact⟨rfl,rfl⟩) ?_;intro we lN;have ze:=lN.size;have hgp:∃p3 p4,p3=wa.heap.size/\p4=wb.heap.size:=⟨_,_,rfl,rfl⟩;obtain⟨p3,p4,e3,e4⟩:=hgp;have Fe:aO we p3 25 [.slice a1 n1 c1,.slice a2 n2 c2,.bool (fileOf s).els]:=by rw[e3];exact aO.kept ur.aN lN.kept (by omega)
 have Ge:aO we p4 28 [.int .i64 (fr s).1,.int .i64 (fr s).2]:=by rw[e4];exact lN.aN
 have bae:Below wa.heap.size wa we:=((cX.below.trans (lF.below.mono (by omega))).trans (ur.kept.below (B:=wa.heap.size) (by omega) (λi h=>by omega))).trans (lN.kept.below (B:=wa.heap.size) (by omega) (λi h=>by omega));have bwe:Below w.heap.size w we:=ba.trans (bae.mono ba.size);have gh:=hg.below bwe;have hFe:=hF.below bae;rw[<-e3,<-e4];push_cast -dsimp;refine aD ?_;push_cast -dsimp;refine aA (HG s (by omega) we gh.d gh.e (by have:=bwe.size;omega)) ?_;rintro r wf ⟨Cy,bf⟩;obtain⟨v2,ev,rfl,hv2,hev,Sa⟩:=OZ Cy;obtain⟨cv2,rv2,⟨a3,n3,c3,rfl⟩,⟨a4,n4,c4,rfl⟩,rfl,hF2⟩:=hv2;have zf:=bf.size;push_cast -dsimp;refine aR (z:=[.slice none 0 0,.slice none 0 0,.bool false]) (by kernel_rfl) ?_;intro wg pd;have zg:=pd.size;push_cast -dsimp;refine aF (xt:=25) (n:=3) (by kernel_rfl) pd.aN rfl (by decide) (by simp;exact⟨rfl,rfl,rfl⟩) ?_;intro wh hwh;have zh:=hwh.size;have hgp:∃p5,p5=wf.heap.size:=⟨_,rfl⟩;obtain⟨p5,e5⟩:=hgp;have bfh:Below wf.heap.size wf wh:=pd.below.trans (hwh.kept.below (B:=wf.heap.size) (by omega) (λi h=>by omega));have beh:=bf.trans (bfh.mono bf.size);have Hh:aO wh p5 25 [.slice a3 n3 c3,.slice a4 n4 c4,.bool (fileOf s).els]:=by rw[e5];exact hwh.aN
 have Fh:=Fe.below beh Fe.lt;have Gh:=Ge.below beh Ge.lt;have aBG:=hev.below bfh;have Qv:=bwe.trans (beh.mono bwe.size);have Vr:=hFe.below beh;have aJF:=hF2.below bfh;rw[<-e5];push_cast -dsimp;refine aD ?_;rcases Sa with ⟨rfl,hq,oM⟩|⟨eb,fe,fp,rfl,hq⟩;rotate_left
 ·rw[hq]at Gh aBG;have dG:aB wh ⟨p4,0,none⟩ 0 2=some [.int .i64 fe,.int .i64 fp]:=Gh.aB;have NO:((fp:Int) = -1)=False:=by simp only[eq_iff_iff,iff_false];omega
  push_cast -dsimp[dG,aL (hg.below Qv),NO];constructor
  ·intro _;refine aA (aCi _ fe fp fe fp wh (DJ Qv hE) aBG) ?_;rintro r wi ⟨hr,bi⟩;have hr:r=.bool true:=by rw[hr];simp
   subst hr;push_cast -dsimp;exact Qv.trans (bi.mono Qv.size)
  intro _;refine aA (aCi _ fe fp fe fp wh (DJ Qv hE) aBG) ?_;rintro r wi ⟨hr,bi⟩;have hr:r=.bool true:=by rw[hr];simp
  subst hr;push_cast -dsimp;exact Qv.trans (bi.mono Qv.size)
 have Gh:aO wh p4 28 [.int .i64 0,.int .i64 (-1)]:=by rw[hq]at Gh;exact Gh
 have dG:aB wh ⟨p4,0,none⟩ 0 2=some [.int .i64 0,.int .i64 (-1)]:=Gh.aB;push_cast -dsimp[dG,aL (hg.below Qv)];have jS:=Y2 (by omega) oM;have Hs:=hfo.2.1;have p7:=hfo.2.2.1;obtain⟨us,GP⟩:∃us,us=qz 0 text:=⟨_,rfl⟩;have WB:us.length<=60:=by rw[GP];have:=H3 text.length text 0 rfl;omega
 have hpt:∀p∈an us,0<=p/\p<=1114111:=by rw[GP];exact aC2 text
 have X3:(an us).length=us.length:=eP us;have xh:p4<wh.heap.size/\p4≠p5/\p3≠p4/\p4<we.heap.size/\wa.heap.size<=p4:=⟨by omega,by omega,by omega,by omega,by omega⟩;refine aD ?_;push_cast -dsimp;refine aA (RZ text (by omega) wh (hL.below Qv)) ?_;rintro uv wi ⟨hU,bi⟩;rw[<-GP]at hU;have zi:=bi.size;obtain⟨ua,uc,rfl⟩:=hU.slice;push_cast -dsimp;refine aD ?_;push_cast -dsimp;refine aA (MX text (by omega) wi) ?_;rintro uv2 wj ⟨hU2,bj⟩;rw[<-GP]at hU2;have zj:=bj.size;push_cast -dsimp;refine aA (U3 us (by omega) _ uv2 wj hU2.sl) ?_;rintro pv wk ⟨hPv,bk⟩;have zk:=bk.size;obtain⟨pa,pc,rfl⟩:=hPv.slice;have bik:=bj.trans (bk.mono bj.size);have bhk:=bi.trans (bik.mono bi.size);have bwk:=Qv.trans (bhk.mono Qv.size);have Fk:=Fh.below bhk Fh.lt;have dFk:aB wk ⟨p3,0,none⟩ 0 3=some [.slice a1 n1 c1,.slice a2 n2 c2,.bool (fileOf s).els]:=Fk.aB;push_cast -dsimp;refine aD ?_;push_cast -dsimp[dFk];refine aA (OM (fileOf s) hfo.1 jS (by omega) (by omega) (an us) (by omega) hpt _ _ _ _ wk (hg.below bwk) (Vr.below bhk) hPv.sl) ?_;rintro r wl ⟨hRB,bl⟩;have zl:=bl.size;obtain⟨lv,rfl,hLv⟩:=Y8 hRB;obtain⟨fn,fp,hft⟩:∃n p,Il (fileOf s)=(n,p):=⟨_,_,rfl⟩;rw[hft];have bhl:=bhk.trans (bl.mono bhk.size);have bwl:=bwk.trans (bl.mono bwk.size);push_cast -dsimp;refine aF (xt:=28) (n:=2) (by kernel_rfl) (Gh.below bhl Gh.lt) rfl (by decide) (by simp;exact⟨rfl,rfl⟩) ?_;intro wm hwm;have zm:=hwm.size;have km:=hwm.kept;have Gm:aO wm p4 28 [.int .i64 fn,.int .i64 fp]:=hwm.aN
 have Hm:=(Hh.below bhl Hh.lt).kept km (λh=>xh.2.1 h.symm);have Fm:=(Fh.below bhl Fh.lt).kept km xh.2.2.1;have bwm:=bwl.trans (km.below (B:=w.heap.size) bwl.size (λi h=>by omega));have hFm:=(Vr.below bhl).LQ (X':=λi=>i=p4) km (λi h=>by rw[h];exact .inr xh.2.2.2.2) (λi h=>by rw[h];exact .inr xh.2.2.2.2);have aFx:=(aJF.below bhl).LQ (X':=λi=>i=p4) km (λi h=>by rw[h];exact xh.2.2.2.1) (λi h=>by rw[h];exact xh.2.2.2.1);have hUm:Sl (λi=>i=p4) 3 (En lL) wm (.slice ua us.length uc) us:=((hU.sl.below (bik.trans (bl.mono bik.size))).kept km (λi h=>by rw[h];exact xh.1)).weaken (λi h=>by rw[h];exact xh.1);have hPm:Sl (λi=>i=p4) 1 (En eV) wm (.slice pa (an us).length pc) (an us):=((hPv.sl.below bl).kept km (λi h=>by rw[h];show p4<wj.heap.size;omega)).weaken (λi h=>by rw[h];show p4<wj.heap.size;omega)
 have hLm:Sl (λ_=>False) 1 (En br) wm lv (IZ (fileOf s) (an us)):=(hLv.kept km (λi h=>by rw[h];show p4<wk.heap.size;omega)).weaken (λ_ h=>h.elim)
 have dHm:aB wm ⟨p5,0,none⟩ 0 3=some [.slice a3 n3 c3,.slice a4 n4 c4,.bool (fileOf s).els]:=Hm.aB;obtain⟨la,lc,rfl,_⟩:=hLm.shape;push_cast -dsimp;refine aD ?_;push_cast -dsimp[dHm];refine aA (Qu (fileOf s) hfo.1 jS (by omega) (by omega) us (by omega) _ _ _ wm aFx hUm) ?_;rintro r wn ⟨hMB,bn⟩;have zn:=bn.size;obtain⟨av,ev,rfl,hAv,hEv⟩:=aAI hMB;rw[hft]at hEv;obtain⟨aa,ac,rfl,_⟩:=hAv.shape;have bwn:=bwm.trans (bn.mono bwm.size);have dGn:aB wn ⟨p4,0,none⟩ 0 2=some [.int .i64 fn,.int .i64 fp]:=(Gm.below bn Gm.lt).aB;have iL:=Qn (fileOf s) (an us);push_cast -dsimp;refine aD ?_;push_cast -dsimp[dGn];refine aA (aCi _ fn fp fn fp wn (DJ bwn hE) hEv) ?_;rintro r wo ⟨hr,bo⟩;have hr:r=.bool true:=by rw[hr];simp
 subst hr;have bno:=bo;push_cast -dsimp;refine aA (KB _ _ (by omega) _ _ _ _ wo (hAv.below bo) ((hLm.below bn).below bo)) ?_;rintro r wp ⟨hr,bp⟩;have hr:r=.bool true:=by rw[hr];simp
 subst hr;have bmp:=bn.trans ((bo.mono bn.size).trans (bp.mono (by have:=bn.size;have:=bo.size;omega)));have bwp:=bwm.trans (bmp.mono bwm.size);have dFp:aB wp ⟨p3,0,none⟩ 0 3=some [.slice a1 n1 c1,.slice a2 n2 c2,.bool (fileOf s).els]:=(Fm.below bmp Fm.lt).aB;push_cast -dsimp;refine aD ?_;push_cast -dsimp[dFp];refine aA (ye (fileOf s) hfo.1.1 (by omega) _ _ wp (hg.below bwp) (hFm.below bmp)) ?_;rintro r wq ⟨hN,bq⟩;have zq:=bq.size;have Vn:=bmp.trans (bq.mono bmp.size);have bwq:=bwm.trans (Vn.mono bwm.size);unfold rX at hN;cases jR:fA [] (fileOf s).bJ with
 | error e =>
  rw[jR]at hN;have hN:r=_:=hN;obtain⟨q,hq9⟩:∃q,q=CL e:=⟨_,rfl⟩;have Vp:q.1=9\/q.1=7:=by rw[hq9];unfold CL;dsimp only;split<;>simp
  rw[<-hq9]at hN;obtain⟨qc,qp⟩:=q;subst hN;dsimp only at Vp ⊢
  rcases Vp with rfl|rfl;·
   push_cast -dsimp
   refine aF (xt:=28) (n:=2) (by kernel_rfl) (Gm.below Vn Gm.lt) rfl (by simp) (by simp;exact⟨rfl,rfl⟩) ?_
   intro wr jT
   have Gr':aO wr p4 28 [.int .i64 9,.int .i64 qp]:=jT.aN
   have W9:=bwq.trans (jT.kept.below (B:=w.heap.size) bwq.size (λi h=>by omega))
   have dGr:aB wr ⟨p4,0,none⟩ 0 2=some [.int .i64 9,.int .i64 qp]:=Gr'.aB
   push_cast -dsimp
   refine aD ?_
   push_cast -dsimp[dGr,aL (hg.below W9)]
   exact W9
  ·
   push_cast -dsimp
   refine aF (xt:=28) (n:=2) (by kernel_rfl) (Gm.below Vn Gm.lt) rfl (by simp) (by simp;exact⟨rfl,rfl⟩) ?_
   intro wr jT
   have Gr':aO wr p4 28 [.int .i64 7,.int .i64 qp]:=jT.aN
   have W9:=bwq.trans (jT.kept.below (B:=w.heap.size) bwq.size (λi h=>by omega))
   have dGr:aB wr ⟨p4,0,none⟩ 0 2=some [.int .i64 7,.int .i64 qp]:=Gr'.aB
   push_cast -dsimp
   refine aD ?_
   push_cast -dsimp[dGr,aL (hg.below W9)]
   exact W9
 | ok nm =>
  rw[jR]at hN;obtain⟨mb,hmb,rfl,EB,vf⟩:=hN;push_cast -dsimp;refine aF (xt:=28) (n:=2) (by kernel_rfl) (Gm.below Vn Gm.lt) rfl (by simp) (by simp;exact⟨rfl,rfl⟩) ?_;intro wr jT;have zr:=jT.size;have kr:=jT.kept;have Gr':aO wr p4 28 [.int .i64 0,.int .i64 (-1)]:=jT.aN;have W9:=bwq.trans (kr.below (B:=w.heap.size) bwq.size (λi h=>by omega));have aK5:p4<wp.heap.size:=by have h1:=bhl.size;have h2:=bmp.size;have:=xh.1;omega
  have hFr:=(hFm.below Vn).LQ (X':=λ_=>False) kr (λ_ h=>h) (λ_ h=>h.elim);have aFy:=(aFx.below Vn).LQ (X':=λ_=>False) kr (λ_ h=>h) (λ_ h=>h.elim);have hUr:=((hUm.below Vn).kept kr (λ_ h=>h)).weaken (X':=λ_=>False) (λ_ h=>h.elim);have hPr:=((hPm.below Vn).kept kr (λ_ h=>h)).weaken (X':=λ_=>False) (λ_ h=>h.elim);have hNr:=EB.aG8 (X':=λ_=>False) kr (λi h=>⟨h,by rw[show i=p4 from h];exact aK5⟩) (by omega) (λ_ h=>h.elim)
  have Hr:=(Hm.below Vn Hm.lt).kept kr (λh=>xh.2.1 h.symm);have Fr:=(Fm.below Vn Fm.lt).kept kr xh.2.2.1;have dGr:aB wr ⟨p4,0,none⟩ 0 2=some [.int .i64 0,.int .i64 (-1)]:=Gr'.aB;obtain⟨f,hgf⟩:∃f,f=fileOf s:=⟨_,rfl⟩;rw[<-hgf]at hfo jS hFr aFy Hr Fr Hs p7;obtain⟨rs,q1,rl,S1,A1⟩:=hFr.eZ;obtain⟨rs',q2,rl',S2,A2⟩:=aFy.eZ;push_cast -dsimp;refine aD ?_;push_cast -dsimp[dGr,aL (hg.below W9)];refine fK (aD ?_);push_cast -dsimp;refine dr ?_;refine jP [6,16,17,18,19,20,84,85,86,87,88,89,90,91,92,93,94,95,96,97,98,99,100,101,102,103,104,105,106,107,108,109,110,111,112,113,114,115,116,117,118,119,120,121,122,123,124,125,126,127,128,129,130,131,132,133,134,135,136,137,138,139,140,141,142,143,144,145,146,147,148,149,150,151,152,153,154,155,156,157] (λz wx=>∃(i:Nat),z 16=.int .i64 i/\i<=f.rules.length/\Below wr.heap.size wr wx) (λz _=>f.rules.length-(intOf (z 16)).toNat) ?_ ?_
  ·exact⟨0,rfl,Nat.zero_le _,Below.refl _ _⟩
  rintro z wx ⟨i,zE,hi,bC⟩;have zx:=bC.size;have Z2:=W9.trans (bC.mono W9.size);have Hx:=Hr.below bC Hr.lt;have Fx:=Fr.below bC Fr.lt;have x1:wx.cell? ⟨p5,1,none⟩=some (.slice a4 n4 c4):=Hx.cell rfl;have x3:wx.cell? ⟨p3,1,none⟩=some (.slice a2 n2 c2):=Fx.cell rfl;rcases Nat.lt_or_ge i f.rules.length with bZ|gh
  ·have uK:((i:Int)<(n4:Int))=True:=by simp only[eq_iff_iff,iff_true];omega
   obtain⟨y,hy,hym,_,_⟩:=bK (l:=f.rules) (i:=i) bZ;have hKo:=hfo.1.2 y hym;have hKn:=jS y hym;obtain⟨⟨m1,r1,u1,v1⟩,hx,wH,NO,hV1,SU⟩:=jV A1 hy;obtain⟨⟨m2,r2,u2,v2⟩,NW,AJ,NP,qX,hW2⟩:=jV A2 hy;dsimp only at wH NO hV1 SU AJ NP qX hW2;obtain⟨g,o,hsa,_,aP⟩:=(S1.below bC).get hx;obtain⟨g',o',NT,_,uE⟩:=(S2.below bC).get NW;have k2:wx.cell? ⟨g,o+i*4+2,none⟩=some (bF u1):=aP 2 _ rfl;have k3:wx.cell? ⟨g,o+i*4+3,none⟩=some (bF v1):=aP 3 _ rfl;have k2':wx.cell? ⟨g',o'+i*4+2,none⟩=some (bF u2):=uE 2 _ rfl;have N9:wx.cell? ⟨g',o'+i*4+3,none⟩=some (bF v2):=uE 3 _ rfl;have bk:∀{ad:Addr} {v:Value} ar,Below wx.heap.size wx ar->wx.cell? ad=some v->ar.cell? ad=some v:=λar h e=>(h.cell (World.block_lt_of_cell? _ _ e)).trans e;refine aD ?_;push_cast -dsimp[zE,x1,uK];refine fK (dr (aD ?_));push_cast -dsimp;by_cases hp:0<=place/\place<=((an us).length:Int)
   ·obtain⟨k,rfl⟩:∃k:Nat,place=k:=⟨place.toNat,by omega⟩;have hk:k<=(an us).length:=by omega
    have e1:((0:Int)<=(k:Int))=True:=by simp only[eq_iff_iff,iff_true];omega
    have e2:((k:Int)<=((an us).length:Int))=True:=by simp only[eq_iff_iff,iff_true];omega
    refine aD ?_;push_cast -dsimp[e1,e2];refine⟨⟨by omega,by omega⟩,?_⟩;have aLe:((an us).take k).reverse.length=k:=by rw[List.length_reverse,List.length_take];omega
    refine aM [19,20,101,102,103,104,105,106,107,108,109,110,111] (λz' wy=>∃(n:Nat) (ov:Value),z' 20=.int .i64 ((k:Int)-1-n)/\z' 19=ov/\n<=k/\Vc.Own wx.heap.size 3 1 eV wy ov (((an us).take k).reverse.take n)/\Below wx.heap.size wx wy) (λz' _=>(intOf (z' 20)+1).toNat) ?_ ?_
    ·exact⟨0,_,by show Value.int .i64 ((k:Int)-1)=_;simp,rfl,Nat.zero_le _,Vc.Own.nil (enc:=eV) _ _ (λ_=>rfl) _,Below.refl _ _⟩
    rintro z' wy ⟨n,ov,aFs,aJs,hn',hO,cp⟩;have zy:=cp.size;push_cast -dsimp[aFs,aJs];refine⟨λgh=>?_,λJL=>?_⟩
    ·have hex:∃p g2 o2,((an us).take k).reverse.take (n+1)=((an us).take k).reverse.take n++[p]/\pa=some ⟨g2,o2,none⟩/\wy.cell? ⟨g2,o2+(k-1-n),none⟩=some (.int .i64 p):=by
      obtain⟨p,hp,rp⟩:=HX hk (show n<k by omega)
      obtain⟨g2,o2,e,_,hc⟩:=((hPr.below bC).below cp).get hp;exact⟨p,g2,o2,rp,e,by simpa[eV] using hc 0 _ rfl⟩
     obtain⟨p,g2,o2,rp,hpa,c0⟩:=hex;have tn:((k:Int)-1-n).toNat=k-1-n:=by omega
     have NN:(((an us).take k).reverse.take n).length=n:=by rw[List.length_take,aLe];omega
     have nB:∃oa oc,ov=.slice oa (((an us).take k).reverse.take n).length oc:=hO.slice;obtain⟨oa,oc,rfl⟩:=nB;push_cast -dsimp[dF hpa,c0,tn,Nat.mul_one];refine⟨⟨by omega,by omega⟩,?_⟩;refine cY bw rfl rfl (by omega) ?_;intro w5 bW;have z5:=bW.size;have gR:=hO.new bW;push_cast -dsimp;refine ae (base:=wx.heap.size) [p] (enc:=eV) bw gR (by rfl) (λj v hv=>by rw[Nat.zero_add];exact bW.cell hv) (by simp[eV,Value.oneCell']) (by simp only[List.length_cons,List.length_nil];omega) (by omega) ?_;intro v6 w6 mR Sf JO;have jc:Below wx.heap.size wx w6:=(cp.trans (bW.below.mono cp.size)).trans ((Kept.grown (X:=λj=>wx.heap.size<=j) Sf (λk hk=>(gR.block k hk).1)).below (by omega) (λ_ h=>h));rw[<-rp]at mR;push_cast -dsimp;exact⟨⟨by omega,by omega⟩,⟨n+1,_,by congr 1;omega,rfl,by omega,mR,jc⟩,by rw[aFs];simp only[intOf];omega⟩
    have hnk:n=k:=by omega
    subst hnk;rw[List.take_of_length_le (by omega)]at hO;have bry:=bC.trans (cp.mono bC.size);have PY:=Z2.trans (cp.mono Z2.size);have hlb:((an us).take n).reverse.length<=1000:=by omega
    have AL:∀p∈((an us).take n).reverse,0<=p/\p<=1114111:=λp hp=>hpt p (List.mem_of_mem_take (List.mem_reverse.1 hp));have hlf:((an us).drop n).length<=1000:=by rw[List.length_drop];omega
    have hpf:∀p∈(an us).drop n,0<=p/\p<=1114111:=λp hp=>hpt p (List.mem_of_mem_drop hp);have hPx:=hPr.below bry;have aGI:(an us).length<=pc:=by
     have hh:=hPr;unfold Sl at hh;obtain⟨a',c',e,hc,_⟩:=hh;cases e;exact hc
    push_cast -dsimp[zE,bk _ cp x3,dF hsa,bk _ cp k2];refine⟨⟨by omega,by omega⟩,?_⟩;refine aA (q7 y.before hKo.1 hKn.1 nm vf (λ_=>False) (λ_=>False) (bF u1) ov mb _ true wy (hg.below PY) (aV.below hV1 bry) (hNr.below bry) (hO.sl.weaken (X':=λ_=>False) (λ_ h=>h.elim)) hlb AL) ?_;rintro r wz ⟨⟨b1,rfl,h1⟩,bz⟩;rw[<-vK (by omega)]at h1;have bxz:=cp.trans (bz.mono cp.size);have brz:=bry.trans (bz.mono bry.size);have PZ:=PY.trans (bz.mono PY.size);have Z3:Below wz.heap.size wz wz.drew:=ma wz;have cK:∀ar,Below wz.heap.size wz ar->Below wx.heap.size wx ar:=λar h=>bxz.trans (h.mono bxz.size);have hSd:=((hPx.below bz).below Z3).Z9 hk;obtain⟨fv,hfv⟩:∃fv,fv=Value.slice (if (pc:Int)=(n:Int) then pa else pa.map (·.add (n*1))) ((an us).length-n) (pc-n):=⟨_,rfl⟩
    rw[<-hfv]at hSd;push_cast -dsimp;refine aX (λar=>Below wz.heap.size wz ar) mixed (by kernel_rfl) Z3 ?_;push_cast -dsimp[zE,bk _ (cK _ Z3) x3,dF hsa,bk _ (cK _ Z3) k3];refine⟨λar h=>by rw[bk _ (cK ar h) x3];exact rfl,⟨by omega,by omega⟩,λar h=>by rw[bk _ (cK ar h) k3];exact rfl,?_⟩;refine Lh hk aGI ?_;rw[<-hfv];push_cast -dsimp;refine aA (q7 y.after hKo.2 hKn.2 nm vf (λ_=>False) (λ_=>False) (bF v1) fv mb _ false wz.drew (hg.below (PZ.trans (Z3.mono PZ.size))) (aV.below SU (brz.trans (Z3.mono brz.size))) (hNr.below (brz.trans (Z3.mono brz.size))) hSd hlf hpf) ?_;rintro r we' ⟨⟨b2,rfl,h2⟩,be'⟩;rw[<-tY]at h2;have bze:=Z3.trans be';have bxe:=cK _ bze;have bre:=bC.trans (bxe.mono bC.size);have aOw:=Z2.trans (bxe.mono Z2.size);refine⟨bze,?_⟩;push_cast -dsimp;refine aD ?_;push_cast -dsimp[zE,bk _ bxe x1,dF NT,bk _ bxe k2'];refine⟨⟨by omega,by omega⟩,?_⟩;refine aA (tX y.before hKo.1 hKn.1 nm vf us (by omega) n (by omega) true (λ_=>False) (bF u2) _ mb we' (aV.below qX bre) (hNr.below bre) (hUr.below bre)) ?_;rintro r wg' ⟨⟨b1',rfl,qV⟩,bg'⟩;have e1':b1'=b1:=Bool.eq_iff_iff.2 (qV.trans h1.symm);subst e1';have bxg:=bxe.trans (bg'.mono bxe.size);have brg:=bre.trans (bg'.mono bre.size);push_cast -dsimp[beq_self_eq_true,Bool.not_true,zE,bk _ bxg x1,dF NT,bk _ bxg N9];refine⟨⟨by omega,by omega⟩,?_⟩;refine aA (tX y.after hKo.2 hKn.2 nm vf us (by omega) n (by omega) false (λ_=>False) (bF v2) _ mb wg' (aV.below hW2 brg) (hNr.below brg) (hUr.below brg)) ?_;rintro r wk' ⟨⟨b2',rfl,h2'⟩,bk'⟩
    have e2':b2'=b2:=Bool.eq_iff_iff.2 (h2'.trans h2.symm);subst e2';push_cast -dsimp[beq_self_eq_true,Bool.not_true,zE];refine cC ?_;push_cast -dsimp;refine cC ?_;push_cast -dsimp[zE];exact⟨⟨by omega,by omega⟩,⟨i+1,rfl,by omega,brg.trans (bk'.mono brg.size)⟩,by simp only[intOf];omega⟩
   refine aD ?_;push_cast -dsimp;refine⟨λh1=>⟨λh2=>absurd ⟨h1,h2⟩ hp,λh2=>?_⟩,λh1=>?_⟩
   ·have fN:place<0\/(us.length:Int)<place:=by omega
    refine aD ?_;push_cast -dsimp[zE,x1,dF NT,k2'];refine⟨⟨by omega,by omega⟩,?_⟩;refine aA (mn (bF u2) (.map (some mb)) _ us (λ_=>False) place true wx (hUr.below bC) fN) ?_;rintro r wg' ⟨rfl,pd⟩;subst pd;push_cast -dsimp[beq_self_eq_true,Bool.not_true,zE,x1,dF NT,N9];refine⟨⟨by omega,by omega⟩,?_⟩;refine aA (mn (bF v2) (.map (some mb)) _ us (λ_=>False) place false wg' (hUr.below bC) fN) ?_;rintro r wk' ⟨rfl,hwk⟩;subst hwk;push_cast -dsimp[beq_self_eq_true,Bool.not_true,zE];refine cC ?_;push_cast -dsimp;refine cC ?_;push_cast -dsimp[zE];exact⟨⟨by omega,by omega⟩,⟨i+1,rfl,by omega,bC⟩,by simp only[intOf];omega⟩
   have fN:place<0\/(us.length:Int)<place:=by omega
   refine aD ?_;push_cast -dsimp[zE,x1,dF NT,k2'];refine⟨⟨by omega,by omega⟩,?_⟩;refine aA (mn (bF u2) (.map (some mb)) _ us (λ_=>False) place true wx (hUr.below bC) fN) ?_;rintro r wg' ⟨rfl,pd⟩;subst pd;push_cast -dsimp[beq_self_eq_true,Bool.not_true,zE,x1,dF NT,N9];refine⟨⟨by omega,by omega⟩,?_⟩;refine aA (mn (bF v2) (.map (some mb)) _ us (λ_=>False) place false wg' (hUr.below bC) fN) ?_;rintro r wk' ⟨rfl,hwk⟩;subst hwk;push_cast -dsimp[beq_self_eq_true,Bool.not_true,zE];refine cC ?_;push_cast -dsimp;refine cC ?_;push_cast -dsimp[zE];exact⟨⟨by omega,by omega⟩,⟨i+1,rfl,by omega,bC⟩,by simp only[intOf];omega⟩
  have uK:((i:Int)<(n4:Int))=False:=by simp only[eq_iff_iff,iff_false];omega
  refine aD ?_;push_cast -dsimp[zE,x1,uK];refine aD ?_;push_cast -dsimp;refine cC ?_;push_cast -dsimp;exact Z2
end Go.Proofs.YtodeeahdhnjpkaaGreatDoor
end
