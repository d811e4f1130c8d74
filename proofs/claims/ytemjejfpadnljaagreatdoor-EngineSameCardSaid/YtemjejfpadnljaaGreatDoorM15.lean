/- Part. -/
import Derived.Test.YtemjejfpadnljaaGreatDoorM14
set_option maxRecDepth 100000
set_option linter.unusedSimpArgs false
set_option linter.unusedVariables false
set_option maxHeartbeats 8000000
namespace Go.Proofs.YtemjejfpadnljaaGreatDoor
open Go.Vc Go.Proofs Go.RowKit Cae
attribute [local irreducible] dN ae ak aY runK aw Sl Vc.Own vc aV cJ a7
theorem aR.below {X:Nat->Prop}{w w':World}{l:List aG}{vs:List Nat}(h:aR X w vs l)(hb:Below w.heap.size w w'):aR X w' vs l :=
 aR.mono (X:=λb=>X b\/w.heap.size<=b) (Y:=λb=>w.heap.size<=b) (Kept.aQ hb (λi h1 h2=>h1)) (λ_ h=>.inr h) (λ_ h=>.inl h) h.top
theorem aR.reverse {X:Nat->Prop}{w:World}:∀{l:List aG} {vs:List Nat},aR X w vs l->aR X w vs.reverse l.reverse
 | [],[],_=>by simp only[List.reverse_nil,aR]
 | [],_::_,h=>by simp only[aR]at h
 | _::_,[],h=>by simp only[aR]at h
 | x::l,v::vs,h=>by
  simp only[aR]at h;rw[List.reverse_cons,List.reverse_cons];exact aR.snoc (aR.reverse h.2) h.1
theorem Of (l:List Nat)(base:Nat)(v:Value)(w:World)(hn:l.length<1000000000)(ho:Vc.Own base 82 1 fU w v l)(hb0:base<=w.heap.size) :
  aw Tryz.prog 137 [v] w λ_ w'=>Vc.Own base 82 1 fU w' v l.reverse/\Kept (λj=>v.ownBlock=some j) w w':=by
 obtain⟨a,c,rfl⟩:=ho.slice;refine aD Tryz.func137 rfl (by kernel_rfl) [] rfl ?_;push_cast -dsimp(maxSteps:=9^7) [Tryz.ntmps137];refine⟨⟨by omega,by omega⟩,?_⟩;refine aK [2,3,7,8,9,10,11,12,13,14,15,16,17,18,19,20,21,22,23,24,25,26,27] (λz wx=>∃(i:Nat) (cur:List Nat),z 2=.int .i64 i/\z 3=.int .i64 ((l.length:Int)-1-i)/\2*i<=l.length/\cur.length=l.length/\(∀k,k<l.length->cur[k]?=if k<i\/l.length-i<=k then l[l.length-1-k]? else l[k]?)/\Vc.Own base 82 1 fU wx (.slice a l.length c) cur/\Kept (λj=>(Value.slice a l.length c).ownBlock=some j) w wx) (λz _=>l.length-(intOf (z 2)).toNat) ?_ ?_
 ·exact⟨0,l,rfl,by simp[at_],by omega,rfl,λk hk=>by rw[if_neg (by omega)],ho,Kept.refl _ _⟩
 intro z wx hI;obtain⟨i,cur,h2,h3,hi,jE,Ho,eU,hb⟩:=hI;have A5:=hb.size;push_cast -dsimp[h2,h3];refine⟨λaq=>?_,λeo=>?_⟩
 ·have hex:∃(x y:Nat) (g:Nat),cur[i]?=some x/\cur[l.length-1-i]?=some y/\a=some ⟨g,0,none⟩/\wx.cell? ⟨g,i,none⟩=some (bx x)/\wx.cell? ⟨g,l.length-1-i,none⟩=some (bx y):=by
   obtain⟨x,hx,_⟩:=ag (l:=cur) (i:=i) (by omega);obtain⟨y,hy,_⟩:=ag (l:=cur) (i:=l.length-1-i) (by omega);have mH:=eU.sl.get hx;have Ec:=eU.sl.get hy;obtain⟨b,o,e,_,hcx⟩:=mH;obtain⟨b',o',e',_,QN⟩:=Ec;rw[e]at e';cases e';have ho0:o=0:=Vc.Own.at0 (by rw[<-e];exact eU);subst ho0;exact⟨x,y,b,hx,hy,e,by simpa using hcx 0 _ rfl,by simpa using QN 0 _ rfl⟩
  obtain⟨x,y,g,hx,hy,he,cx,cy⟩:=hex;subst he;have ej:((l.length:Int)-1-i)=((l.length-1-i:Nat):Int):=by omega
  rw[ej];unfold bx at cx cy;refine Dg [0,1,2,3,4,5,6,7,8,9,10,11,12] 13 [14,15] (λw'=>w'=wx.drew) mixed (by kernel_rfl) rfl ?_;have cx':wx.drew.cell? ⟨g,i,none⟩=some (.pointer (some ⟨x,0,none⟩)):=cx;have cy':wx.drew.cell? ⟨g,l.length-1-i,none⟩=some (.pointer (some ⟨y,0,none⟩)):=cy;have Ei:Vc.Own base 82 1 fU wx.drew (.slice (some ⟨g,0,none⟩) l.length c) cur:=eU.aH (Kept.refl (λ_=>False) _).drew (λ_ _ h=>h);push_cast -dsimp[cx',cy'];refine⟨⟨by omega,by omega⟩,λbQ hC=>by rw[hC,cy'];exact rfl,⟨by omega,by omega⟩,λbQ hC=>by rw[hC,cx'];exact rfl,⟨by omega,by omega⟩,?_⟩;refine xV (i:=i) (y:=y) Ei rfl (by omega) rfl rfl ?_;intro w1 vy QU qw;refine⟨trivial,?_⟩;push_cast -dsimp;refine⟨⟨by omega,by omega⟩,?_⟩;have yq:l.length-1-i<(cur.set i y).length:=by rw[List.length_set];omega
  have n5:(cur.set i y).length=cur.length:=List.length_set;refine xV (i:=l.length-1-i) (y:=x) vy rfl yq rfl rfl ?_;intro w2 ln nh EE;have yp:Kept (λj=>(Value.slice (some ⟨g,0,none⟩) l.length c).ownBlock=some j) wx w2:=(((Kept.refl (λj=>j=g) wx).drew).trans QU (λ_ _ h=>h)).trans nh (λ_ _ h=>h) |>.weaken (λj _ h=>by rw[h];rfl);refine⟨trivial,?_⟩;push_cast -dsimp;refine⟨⟨by omega,by omega⟩,⟨by omega,by omega⟩,⟨i+1,(cur.set i y).set (l.length-1-i) x,rfl,by congr 1;omega,by omega,by rw[List.length_set,List.length_set];exact jE,λk hk=>?_,ln,hb.trans yp (λ_ _ h=>h)⟩,by rw[h2];simp only[intOf];omega⟩;rw[List.getElem?_set,List.getElem?_set];have EY:=Ho i (by omega);have rT:=Ho (l.length-1-i) (by omega);rw[if_neg (by omega)]at EY rT;rw[hx]at EY;rw[hy]at rT;by_cases e1:l.length-1-i=k
  ·rw[if_pos e1,if_pos yq,if_pos (by omega),EY];congr 1;omega
  rw[if_neg e1];by_cases e2:i=k
  ·rw[if_pos e2,if_pos (by omega),if_pos (by omega),rT];congr 1;omega
  rw[if_neg e2,Ho k hk];by_cases e3:k<i\/l.length-i<=k
  ·rw[if_pos e3,if_pos (by omega)]
  rw[if_neg e3,if_neg (by omega)]
 have aHN:cur=l.reverse:=by
  apply List.ext_getElem?;intro k;by_cases hk:k<l.length
  ·rw[Ho k hk,List.getElem?_reverse hk];split
   ·rfl
   congr 1;omega
  rw[List.getElem?_eq_none (by omega),List.getElem?_eq_none (by rw[List.length_reverse];omega)]
 subst aHN;exact⟨eU,hb⟩
end Go.Proofs.YtemjejfpadnljaaGreatDoor
namespace Cae
section
theorem mU:∀(l m:List aG),cD (l++m)=cD l+cD m
 | [],m=>by simp[cD]
 | x::l,m=>by rw[List.cons_append,cD,cD,mU l m];omega
theorem jB:∀(l:List aG),cD l.reverse=cD l
 | []=>rfl
 | x::l=>by rw[List.reverse_cons,mU,jB l,cD,cD,cD];omega
theorem BU (l:List aG)(i:Nat){y:aG}(h:l[i]?=some y):cD (l.take i)+bO y<=cD l/\cD (l.take (i+1))=cD (l.take i)+bO y:=by
 obtain⟨aq,he⟩:=List.getElem?_eq_some_iff.1 h;have e1:l.take (i+1)=l.take i++[y]:=by rw[List.take_add_one,h];rfl
 have e2:cD (l.take (i+1))=cD (l.take i)+bO y:=by rw[e1,mU];simp[cD]
 have e3:cD l=cD (l.take (i+1))+cD (l.drop (i+1)):=by rw[<-mU,List.take_append_drop]
 exact⟨by omega,e2⟩
section
variable {has:bB->Int->Prop} {c c':aE} {back:Bool}
theorem Lq {back:Bool}:∀(l m:List aG) (a b:Nat),lL has c back (l++m) a b↔∃k,lL has c back l a k/\lL has c back m k b
 | [],m,a,b=>by simp[lL]
 | x::l,m,a,b=>by
  simp only[List.cons_append,lL,Lq l m];constructor
  ·rintro⟨k,h1,j,h2,h3⟩;exact⟨j,⟨k,h1,h2⟩,h3⟩
  rintro⟨j,⟨k,h1,h2⟩,h3⟩;exact⟨k,h1,j,h2,h3⟩
def A3 (has:bB->Int->Prop)(c:aE)(back:Bool)(l:List aG)(n a b:Nat):Prop:=if back then oM has c back (l.drop (l.length-n)) a b else lL has c back (l.take n) a b
def pQ (back:Bool)(l:List aG):List aG:=if back then l.reverse else l
theorem xC (l:List aG):(pQ back l).length=l.length:=by unfold pQ;split<;>simp
theorem GP {l:List aG}{a:Nat}:A3 has c back l 0 a a:=by
 unfold A3;split
 ·simp[oM]
 simp[lL]
theorem Lt {l:List aG}{a b:Nat}:A3 has c back l l.length a b↔ik has c back (.cat l) a b:=by
 unfold A3;simp only[ik,Nat.sub_self,List.drop_zero,List.take_length]
theorem GO {l:List aG}{n:Nat}{x:aG}{a m b:Nat}(hx:(pQ back l)[n]?=some x)(h1:A3 has c back l n a m)(h2:ik has c back x m b):A3 has c back l (n+1) a b:=by
 unfold A3 at h1 ⊢
 unfold pQ at hx;by_cases hb:back=true
 ·rw[if_pos hb]at h1 hx ⊢
  have hn:n<l.length:=by have:=(List.getElem?_eq_some_iff.1 hx).1;rw[List.length_reverse]at this;exact this
  rw[List.getElem?_reverse hn]at hx;have aq:l.length-(n+1)<l.length:=by omega
  have e:l.drop (l.length-(n+1))=x::l.drop (l.length-n):=by
   rw[List.drop_eq_getElem_cons aq];have e1:l.length-(n+1)+1=l.length-n:=by omega
   rw[e1];congr 1;have e2:l.length-1-n=l.length-(n+1):=by omega
   rw[e2,List.getElem?_eq_getElem aq]at hx;exact Option.some.inj hx
  rw[e];simp only[oM];exact⟨m,h1,h2⟩
 rw[if_neg hb]at h1 hx ⊢
 have e:l.take (n+1)=l.take n++[x]:=by rw[List.take_add_one,hx];rfl
 rw[e,Lq];exact⟨m,h1,b,h2,by simp[lL]⟩
theorem GN {l:List aG}{n a b:Nat}(hs:eZ c c' a b)(h:A3 has c back l n a b):A3 has c' back l n a b:=by
 unfold A3 at h ⊢
 by_cases hb:back=true
 ·rw[if_pos hb]at h ⊢;exact yS _ a b hs h
 rw[if_neg hb]at h ⊢;exact yT _ a b hs h
end
end
section
theorem ue {nm:bK}:∀{l:List aG},jN nm l=none↔∀x∈l,iY nm x=none
 | []=>by simp[jN]
 | x::l=>by
  rw[jN,List.forall_mem_cons,<-ue (l:=l)];cases iY nm x with
  | some e=>simp
  | none=>simp
theorem zj {nm:bK}:∀{l:List cQ},gY nm l=none↔∀r∈l,iY nm r.before=none/\iY nm r.after=none
 | []=>by simp[gY]
 | r::l=>by
  rw[gY,List.forall_mem_cons,<-zj (l:=l),GK];cases iY nm r.before with
  | some e=>simp
  | none =>
   cases iY nm r.after with
   | some e=>simp
   | none=>simp
end
end Cae
namespace Go.Proofs.YtemjejfpadnljaaGreatDoor
open Go.Vc Go.Proofs Go.RowKit Cae
attribute [local irreducible] dN ae ak aY runK aw Sl Vc.Own vc aV cJ a7
theorem Ext.same {c c':aE}(h:Ext c c'){a b:Nat}(hb:b<=c.ins.length):eZ c c' a b:=⟨λk h1 h2=>by
 rw[List.getElem?_eq_getElem (show k<c.ins.length by omega)]
 exact h.ins k _ (List.getElem?_eq_getElem (by omega)),h.sets⟩
theorem fu.kept {X Y X':Nat->Prop}{w w':World}{b:Nat}{nm:bK}(h:fu X w b nm)(hk:Kept Y w w')(hY:∀i,Y i->X i)(hb:¬Y b)(hX:∀i,X' i->X i):fu X' w' b nm:=by
 obtain⟨iD,h2,h3⟩:=h;exact⟨iD,h2.kept hk hb,h3.imp λa b h=>⟨h.1,(h.2.1.kept hk hY).weaken hX,h.2.2⟩⟩
def ot (x:aG):Prop:=bD x->wd x<=100000->∀(nm:bK),iY nm x=none->iG nm->∀(B mb nb:Nat) (back:Bool) (X Z:Nat->Prop) (w:World) (c:aE) (v:Value),Mk B mb nb back X w c->(∀b,X b->(Z b\/b=mb\/B<=b)/\b<w.heap.size)->nb<mb->fu (λb=>Z b\/b=mb\/B<=b) w nb nm->au (λb=>Z b\/b=mb\/B<=b) w v x->c.sets.length<=c.ins.length ->
 Az Tryz.prog 111 [.pointer (some ⟨mb,0,none⟩),v] w
  (λr w'=>(∃c',Mk B mb nb back X w' c'/\Ext c c'/\c'.ins.length=c.ins.length+bO x/\ik (bC nm) c' back x c.ins.length c'.ins.length)/\gm mb w w')
  (λce w'=>2000<c.ins.length+bO x/\NA 4 ce/\gm mb w w')
theorem Mk.own {B mb nb:Nat}{back:Bool}{X Z:Nat->Prop}{w:World}{c:aE}{sv iv:Value}{us:List SV}(h:Mk B mb nb back X w c)(hM:MkB B mb nb back X w c sv iv us)(hX:∀b,X b->(Z b\/b=mb\/B<=b)/\b<w.heap.size){b:Nat}(hb:X b\/b=mb\/sv.ownBlock=some b\/iv.ownBlock=some b):(Z b\/b=mb\/B<=b)/\b<w.heap.size :=
 hb.elim (hX b) λhb=>⟨.inr (h.mw ((fA hM.1).2 hb)).1,(h.mw ((fA hM.1).2 hb)).2⟩
theorem aGe (k:bB):ot (.one k):=by
 intro bI j8 nm jg hr B mb nb back X Z w c v h hX kL hN hV r5;simp only[bD]at bI;simp only[au]at hV;obtain⟨xb,u,rfl,xa,hB,hK⟩:=hV;obtain⟨kb,rfl,Ef⟩:=hK.ptr;have jg:∃s,cK nm k=.ok s:=by
  simp only[iY]at jg;cases hk:cK nm k with
  | ok s=>exact⟨s,rfl⟩
  | error e=>rw[hk]at jg;cases jg
 obtain⟨s,hs⟩:=jg;have bm:=h.st;obtain⟨sv,iv,us,hM⟩:=bm;have hMB:=hM.1;have aq:=h.lt;have hle:=h.le;have d0:w.cell? ⟨xb,0,none⟩=some (.int .i64 1):=hB.cell rfl;refine bR Tryz.func111 rfl (by kernel_rfl) [] rfl ?_;push_cast -dsimp(maxSteps:=9^7) [Tryz.ntmps111];push_cast -dsimp[d0];have d1:w.drew.cell? ⟨xb,1,none⟩=some (.pointer (some ⟨kb,0,none⟩)):=hB.drew.cell rfl;have d2:w.drew.cell? ⟨mb,2,none⟩=some (.map (some nb)):=hMB.drew.cell rfl;refine bu (λw'=>aN w' xb 158 [.int .i64 1,.pointer (some ⟨kb,0,none⟩),.slice none 0 0,.int .i64 0,.int .i64 0]/\aN w' mb 200 [sv,iv,.map (some nb),.bool back]) mixed (by kernel_rfl) ⟨hB.drew,hMB.drew⟩ ?_;push_cast -dsimp[d1,d2];refine⟨λbQ h=>by rw[h.1.cell (o:=1) rfl];exact rfl,λbQ h=>by rw[h.2.cell (o:=2) rfl];exact rfl,?_⟩;have qp:=da w;refine aA (A9 k bI nm hr (λb=>Z b\/b=mb\/B<=b) _ nb w.drew (hK.drew) (hN.below qp)) ?_;rintro r w1 ⟨hR,gS⟩;have TA:Below w.heap.size w w1:=qp.trans (gS.mono (Nat.le_refl _));have z1:=TA.size;unfold dG at hR;rw[hs]at hR;obtain⟨kv,rfl,Bt,JR⟩:=hR;have hkr:=eQ hr bI hs;refine⟨⟨hB.below TA hB.lt,hMB.below TA hMB.lt⟩,?_⟩;obtain⟨ka,kc,rfl,hkc⟩:=Bt.shape;push_cast -dsimp;have h1:=h.below TA;have Md:=hM.below TA;have k1:gm mb w w1:=gm.below TA (by omega);refine aF (Qq h1 Md r5 s hkr _ (Bt.weaken (λb hb=>h.own hM hX hb))) ?_ ?_
 ·rintro _ w2 ⟨hl,⟨c',i,He,hE,hlen,Ee,uS⟩,k2⟩;push_cast -dsimp;refine⟨⟨c',He,hE,by simp only[bO];exact hlen,?_⟩,k1.trans k2⟩;simp only[ik];refine⟨hlen,i,s,Ee,uS,λp=>?_⟩;unfold bC;constructor
  ·intro hp;exact⟨s,hs,hp⟩
  rintro⟨t,ht,hp⟩;rw[hs]at ht;cases ht;exact hp
 rintro ce w2 ⟨hl,ht,k2⟩;push_cast -dsimp;exact⟨by simp only[bO];omega,ht,k1.trans k2⟩
theorem XA (vs:List Nat)(hl:vs.length<1000000000)(X:Nat->Prop)(v:Value)(w:World)(hv:Sl X 1 (En fU) w v vs) :
  aw Tryz.prog 136 [v] w λr w'=>Vc.Own w.heap.size 82 1 fU w' r vs/\Below w.heap.size w w':=by
 obtain⟨a,c,rfl,hc⟩:=hv.shape;refine aD Tryz.func136 rfl (by kernel_rfl) [2] rfl ?_;push_cast -dsimp(maxSteps:=9^7) [Tryz.ntmps136];cases a with
 | none =>
  have:vs=[]:=by
   cases vs with
   | nil=>rfl
   | cons y ys=>obtain⟨b,o,h,_⟩:=hv.get (i:=0) (x:=y) rfl;cases h
  subst this;push_cast -dsimp[aE2];exact⟨Vc.Own.nil (enc:=fU) _ _ (λ_=>rfl) _,Below.refl _ _⟩
 | some ad =>
  push_cast -dsimp[aE3];refine cF gD rfl rfl (by omega) ?_;intro w1 aU;have vy:=aU.own (base:=w.heap.size) (k:=1) (n:=0) (enc:=fU) (l:=[]) rfl rfl (λ_=>rfl) (Nat.le_refl _) (by omega);have qw:=aU.size;push_cast -dsimp;refine mi (base:=w.heap.size) (enc:=fU) (ys:=vs) gD vy (hv.below aU.below) (λn c h=>by cases h) nF (by simp only[List.length_nil];omega) (by omega) ?_;intro v' w2 ln EZ dt;rw[List.nil_append]at ln;push_cast -dsimp;exact⟨ln,aU.below.trans dt⟩
theorem aGc:ot .any:=by
 intro bI j8 nm jg hr B mb nb back X Z w c v h hX kL hN hV r5;simp only[au]at hV;obtain⟨xb,rfl,xa,hB⟩:=hV;have bm:=h.st;obtain⟨sv,iv,us,hM⟩:=bm;have aq:=h.lt;have hle:=h.le;have d0:w.cell? ⟨xb,0,none⟩=some (.int .i64 2):=hB.cell rfl;refine bR Tryz.func111 rfl (by kernel_rfl) [] rfl ?_;push_cast -dsimp(maxSteps:=9^7) [Tryz.ntmps111];push_cast -dsimp[d0];refine cF fe rfl rfl (by omega) ?_;intro w1 aU;have z1:=aU.size;have vy:Vc.Own w.heap.size 208 2 bF w1 (.slice (some ⟨w.heap.size,0,none⟩) 1 1) [((0:Int),(1114111:Int))]:=aU.own (by rfl) rfl (λ_=>rfl) (Nat.le_refl _) (by omega);have h1:=h.below aU.below;have Md:=hM.below aU.below;have k1:gm mb w w1:=gm.below aU.below (by omega);push_cast -dsimp;refine aF (Qq h1 Md r5 [((0:Int),(1114111:Int))] (by decide) _ (?_:Sl _ 2 (En bF) w1 _ [((0:Int),(1114111:Int))])) ?_ ?_
 ·exact vy.sl.weaken (λb hb=>(h.own hM hX hb).2)
 ·rintro _ w2 ⟨hl,⟨c',i,He,hE,hlen,Ee,uS⟩,k2⟩;push_cast -dsimp;refine⟨⟨c',He,hE,by simp only[bO];exact hlen,?_⟩,k1.trans k2⟩;simp only[ik];exact⟨hlen,i,_,Ee,uS,λp hp0 JT=>by simp[fO];omega⟩
 rintro ce w2 ⟨hl,ht,k2⟩;push_cast -dsimp;exact⟨by simp only[bO];omega,ht,k1.trans k2⟩
theorem aBT:ot .gh:=by
 intro bI j8 nm jg hr B mb nb back X Z w c v h hX kL hN hV r5;simp only[au]at hV;obtain⟨xb,rfl,xa,hB⟩:=hV;have Y4:=h.num;have d0:w.cell? ⟨xb,0,none⟩=some (.int .i64 3):=hB.cell rfl;refine bR Tryz.func111 rfl (by kernel_rfl) [] rfl ?_;push_cast -dsimp(maxSteps:=9^7) [Tryz.ntmps111];push_cast -dsimp[d0];refine aF (vL h (by omega) ⟨4,0,0⟩) ?_ ?_
 ·rintro _ w1 ⟨hl,rfl,Md,k1⟩;push_cast -dsimp;refine⟨⟨_,Md,Ext.push c _,by simp[aE.push,bO],?_⟩,k1⟩;simp only[ik];refine⟨by simp[aE.push],?_⟩
  show (c.ins++[_])[c.ins.length]?=_
  rw[List.getElem?_append_right (Nat.le_refl _),Nat.sub_self];rfl
 rintro ce w1 ⟨hl,ht,k1⟩;push_cast -dsimp;exact⟨by simp only[bO];omega,ht,k1⟩
theorem aGd (l:List aG)(cg:∀y∈l,ot y):ot (.cat l):=by
 intro bI j8 nm jg hr B mb nb back X Z w c v h hX kL hN hV r5;simp only[bD]at bI;simp only[iY]at jg;have AV:=ue.1 jg;simp only[au]at hV;obtain⟨xb,psv,vs,rfl,xa,hB,hs,hVl⟩:=hV;have hvl:=hVl.len;have wC:=y6 (l:=l);have aQR:=wC.2.1;have bm:=h.st;obtain⟨sv,iv,us,hM⟩:=bm;have hMB:=hM.1;have aq:=h.lt;have hle:=h.le;obtain⟨pa,pc,rfl,aHH⟩:=hs.shape;have d0:w.cell? ⟨xb,0,none⟩=some (.int .i64 4):=hB.cell rfl;have d2:w.cell? ⟨xb,2,none⟩=some (.slice pa vs.length pc):=hB.cell rfl;refine bR Tryz.func111 rfl (by kernel_rfl) [] rfl ?_;push_cast -dsimp(maxSteps:=9^7) [Tryz.ntmps111];push_cast -dsimp[d0,d2];refine aA (XA vs (by omega) _ _ w hs) ?_;rintro cv w1 ⟨hC,gS⟩;have z1:=gS.size;have hcb:=hC.block;have hV1:=aR.below hVl gS;have e3:w1.cell? ⟨mb,3,none⟩=some (.bool back):=(hMB.below gS hMB.lt).cell rfl;cases back with
 | false =>
  obtain⟨ca,cc,rfl⟩:=hC.slice;push_cast -dsimp[e3];have rQ:=gS;have zS:=rQ.size;have hS:=h.below rQ;have kS:gm mb w (w1):=gm.below rQ (by omega);have hwS:∀i,Mw (w1) mb i->i<w.heap.size:=λi hi=>by
   rcases kS.own i hi with h1|h1
   ·exact(h.mw h1).2
   have h2:=(hS.mw hi).2;have hN0:∀j,Mw (w1) mb j->Mw w mb j:=λj hj=>by
    rcases hj with hj|⟨o,v,e1,e2⟩
    ·exact .inl hj
    refine .inr ⟨o,v,?_,e2⟩;rw[<-rQ.cell (p:=⟨mb,o,none⟩) (by show mb<_;omega)]
    exact e1
   exact(h.mw (hN0 i hi)).2
  have hNS:=hN.below rQ;have YE:vs.length=l.length:=by simp[hvl]
  refine aK [8,63,64,65,66,67,68,69,70] (λz wx=>∃(i:Nat) (ci:aE),z 63=.int .i64 i/\i<=l.length/\Mk B mb nb false X wx ci/\Ext c ci/\ci.ins.length=c.ins.length+cD ((pQ false l).take i)/\A3 (bC nm) ci false l i c.ins.length ci.ins.length/\gm mb (w1) wx) (λz _=>l.length-(intOf (z 63)).toNat) ?_ ?_
  ·exact⟨0,c,rfl,Nat.zero_le _,hS,Ext.refl c,by simp[cD],GP,gm.refl (by omega)⟩
  intro z wx hI;obtain⟨i,ci,h63,hi,Ds,Dr,Ki,pG,kx⟩:=hI;have Tl:=kx.out hS;have zx:=kx.kept.size;push_cast -dsimp[h63];refine⟨λaq=>?_,λeo=>?_⟩
  ·obtain⟨y,hy,Fa,_,_⟩:=ag (l:=pQ false l) (i:=i) (by rw[xC];omega);have hyl:y∈l:=by unfold pQ at Fa;split at Fa<;>first|exact List.mem_reverse.1 Fa|exact Fa
   obtain⟨u,hu,hVy⟩:=aR.nth (hV1) hy;have Ss:au (λb=>Z b\/b=mb\/B<=b) wx (bx u) y:=au.mono Tl (λ_ h=>.inr h) (λ_ h=>h) hVy;have hNx:fu (λb=>Z b\/b=mb\/B<=b) wx nb nm:=fu.kept hNS Tl (λ_ h=>.inr h) (λh=>by rcases h with h|h<;>omega) (λ_ h=>h);obtain⟨b1,o,rfl,_,aM⟩:=(Sl.kept (hC.sl) kx.kept (λj hj=>hwS j hj)).get hu;have c0:wx.cell? ⟨b1,o+i,none⟩=some (.pointer (some ⟨u,0,none⟩)):=by simpa[fU,bx] using aM 0 _ rfl
   have jE:=BU (pQ false l) i hy;have hco:cD (pQ false l)=cD l:=by unfold pQ;split<;>first|exact jB l|rfl
   push_cast -dsimp[c0];refine⟨⟨by omega,by omega⟩,?_⟩;refine aF (cg y hyl (fz bI hyl) (by have:=wC.2.2 y hyl;omega) nm (AV y hyl) hr B mb nb false X Z wx ci _ Ds (λb hb=>by have:=hX b hb;exact⟨this.1,by omega⟩) kL hNx Ss (by have:=Dr.sum;omega)) ?_ ?_
   ·rintro _ wy ⟨⟨cy,hMy,QI,hly,qe⟩,ky⟩;push_cast -dsimp;refine⟨⟨by omega,by omega⟩,⟨i+1,cy,rfl,by omega,hMy,Dr.trans QI,by rw[hly,Ki,jE.2];omega,GO hy (GN (QI.same (Nat.le_refl _)) pG) qe,kx.trans ky⟩,by rw[h63];simp only[intOf];omega⟩
   rintro ce wy ⟨oX,ht,ky⟩;push_cast -dsimp;exact⟨by simp only[bO];omega,ht,(kS.trans kx).trans ky⟩
  have Af:i=l.length:=by omega
  subst Af;rw[List.take_of_length_le (by rw[xC];exact Nat.le_refl _)]at Ki;have hco:cD (pQ false l)=cD l:=by unfold pQ;split<;>first|exact jB l|rfl
  exact⟨⟨ci,Ds,Dr,by simp only[bO];omega,Lt.1 pG⟩,kS.trans kx⟩
 | true =>
  push_cast -dsimp[e3];refine aA (Of vs _ cv w1 (by omega) hC (by omega)) ?_;rintro _ w2 ⟨hD,nh⟩;have dt:Below w.heap.size w w2:=gS.trans (nh.below (by omega) (λi h=>(hcb i h).1));have qn:aR (λb=>Z b\/b=mb\/B<=b) w2 vs.reverse l.reverse:=aR.reverse (hVl.below dt);obtain⟨ca,cc,rfl⟩:=hD.slice;push_cast -dsimp;have rQ:=dt;have zS:=rQ.size;have hS:=h.below rQ;have kS:gm mb w (w2):=gm.below rQ (by omega);have hwS:∀i,Mw (w2) mb i->i<w.heap.size:=λi hi=>by
   rcases kS.own i hi with h1|h1
   ·exact(h.mw h1).2
   have h2:=(hS.mw hi).2;have hN0:∀j,Mw (w2) mb j->Mw w mb j:=λj hj=>by
    rcases hj with hj|⟨o,v,e1,e2⟩
    ·exact .inl hj
    refine .inr ⟨o,v,?_,e2⟩;rw[<-rQ.cell (p:=⟨mb,o,none⟩) (by show mb<_;omega)]
    exact e1
   exact(h.mw (hN0 i hi)).2
  have hNS:=hN.below rQ;have YE:vs.reverse.length=l.length:=by simp[hvl]
  refine aK [8,63,64,65,66,67,68,69,70] (λz wx=>∃(i:Nat) (ci:aE),z 63=.int .i64 i/\i<=l.length/\Mk B mb nb true X wx ci/\Ext c ci/\ci.ins.length=c.ins.length+cD ((pQ true l).take i)/\A3 (bC nm) ci true l i c.ins.length ci.ins.length/\gm mb (w2) wx) (λz _=>l.length-(intOf (z 63)).toNat) ?_ ?_
  ·exact⟨0,c,rfl,Nat.zero_le _,hS,Ext.refl c,by simp[cD],GP,gm.refl (by omega)⟩
  intro z wx hI;obtain⟨i,ci,h63,hi,Ds,Dr,Ki,pG,kx⟩:=hI;have Tl:=kx.out hS;have zx:=kx.kept.size;push_cast -dsimp[h63];refine⟨λaq=>?_,λeo=>?_⟩
  ·obtain⟨y,hy,Fa,_,_⟩:=ag (l:=pQ true l) (i:=i) (by rw[xC];omega);have hyl:y∈l:=by unfold pQ at Fa;split at Fa<;>first|exact List.mem_reverse.1 Fa|exact Fa
   obtain⟨u,hu,hVy⟩:=aR.nth (qn) hy;have Ss:au (λb=>Z b\/b=mb\/B<=b) wx (bx u) y:=au.mono Tl (λ_ h=>.inr h) (λ_ h=>h) hVy;have hNx:fu (λb=>Z b\/b=mb\/B<=b) wx nb nm:=fu.kept hNS Tl (λ_ h=>.inr h) (λh=>by rcases h with h|h<;>omega) (λ_ h=>h);obtain⟨b1,o,rfl,_,aM⟩:=(Sl.kept (hD.sl) kx.kept (λj hj=>hwS j hj)).get hu;have c0:wx.cell? ⟨b1,o+i,none⟩=some (.pointer (some ⟨u,0,none⟩)):=by simpa[fU,bx] using aM 0 _ rfl
   have jE:=BU (pQ true l) i hy;have hco:cD (pQ true l)=cD l:=by unfold pQ;split<;>first|exact jB l|rfl
   push_cast -dsimp[c0];refine⟨⟨by omega,by omega⟩,?_⟩;refine aF (cg y hyl (fz bI hyl) (by have:=wC.2.2 y hyl;omega) nm (AV y hyl) hr B mb nb true X Z wx ci _ Ds (λb hb=>by have:=hX b hb;exact⟨this.1,by omega⟩) kL hNx Ss (by have:=Dr.sum;omega)) ?_ ?_
   ·rintro _ wy ⟨⟨cy,hMy,QI,hly,qe⟩,ky⟩;push_cast -dsimp;refine⟨⟨by omega,by omega⟩,⟨i+1,cy,rfl,by omega,hMy,Dr.trans QI,by rw[hly,Ki,jE.2];omega,GO hy (GN (QI.same (Nat.le_refl _)) pG) qe,kx.trans ky⟩,by rw[h63];simp only[intOf];omega⟩
   rintro ce wy ⟨oX,ht,ky⟩;push_cast -dsimp;exact⟨by simp only[bO];omega,ht,(kS.trans kx).trans ky⟩
  have Af:i=l.length:=by omega
  subst Af;rw[List.take_of_length_le (by rw[xC];exact Nat.le_refl _)]at Ki;have hco:cD (pQ true l)=cD l:=by unfold pQ;split<;>first|exact jB l|rfl
  exact⟨⟨ci,Ds,Dr,by simp only[bO];omega,Lt.1 pG⟩,kS.trans kx⟩
theorem Mk.patch {B mb nb:Nat}{back:Bool}{X:Nat->Prop}{w w':World}{c:aE}{sv iv:Value}{us:List SV}{g k:Nat}{y:I3}(h:Mk B mb nb back X w c)(hM:MkB B mb nb back X w c sv iv us)(hg:iv.ownBlock=some g)(hO:Vc.Own B 164 3 bX w' iv (c.ins.set k y))(hk:Kept (·=g) w w') :
  Mk B mb nb back X w' ⟨c.sets,c.ins.set k y⟩/\gm mb w w':=by
 obtain⟨hB,yl,ff,uV,gE,iC,mV,rB⟩:=hM;have hgm:mb≠g:=λe=>iC (by rw[hg,e]);have nz:=hB.kept hk (λhh=>hgm hh);have aGG:=yl.aH hk (λi hi hh=>mV i hi (by rw[hg,hh]));have hz:=hk.size;refine⟨⟨⟨sv,iv,us,nz,aGG,hO,uV,gE,iC,mV,λi u s h1 h2=>(rB i u s h1 h2).kept hk (λi hi=>.inr (.inr (.inr (by rw[hg,hi]))))⟩,h.lt,by have:=h.le;omega,h.few,by rw[List.length_set];exact h.num,by rw[List.length_set];exact h.sum⟩,⟨hk.weaken (λi _ hi=>(fA hB).2 (.inr (.inr (by rw[hg,hi])))),λi hi=>?_⟩⟩
 have:=(fA nz).1 hi;exact .inl ((fA hB).2 this)
theorem Mk.off {B mb nb:Nat}{back:Bool}{X:Nat->Prop}{w:World}{c:aE}(h:Mk B mb nb back X w c){α:Type}{base k:Nat}{e:TypeId}{enc:α->List Value}{v:Value}{l:List α}(hO:Vc.Own base e k enc w v l)(h1:e≠139)(h2:e≠164)(hb:mb<base):∀g,v.ownBlock=some g->¬Mw w mb g:=by
 intro g hg hm;obtain⟨sv,iv,us,hB,yl,ff,_⟩:=h.st;rcases(fA hB).1 hm with hm|hm|hm
 ·have:=hO.block g hg;omega
 ·exact rq yl hO (λe=>h1 e.symm) g hm hg
 exact rq ff hO (λe=>h2 e.symm) g hm hg
theorem Mk.iT {B mb nb:Nat}{back:Bool}{X X':Nat->Prop}{w:World}{c:aE}(h:Mk B mb nb back X w c)(hX:∀b,X' b->X b):Mk B mb nb back X' w c:=by
 obtain⟨sv,iv,us,hB,yl,ff,uV,gE,iC,mV,rB⟩:=h.st;exact⟨⟨sv,iv,us,hB,yl,ff,uV,gE,iC,mV,λi u s h1 h2=>(rB i u s h1 h2).weaken (λb hb=>hb.imp (hX b) id)⟩,h.lt,h.le,h.few,h.num,h.sum⟩
theorem Mk.aAV {B mb nb:Nat}{back:Bool}{X:Nat->Prop}{w w':World}{c:aE}{ov ov':Value}(h:Mk B mb nb back (λb=>X b\/ov.ownBlock=some b) w c)(ho:∀g,ov.ownBlock=some g->¬Mw w mb g)(hk:Kept (λj=>ov.ownBlock=some j) w w')(hn:∀g,ov'.ownBlock=some g->ov.ownBlock=some g\/w.heap.size<=g) :
  Mk B mb nb back (λb=>X b\/ov'.ownBlock=some b) w' c:=by
 obtain⟨sv,iv,us,hB,yl,ff,uV,gE,iC,mV,rB⟩:=h.st;have hz:=hk.size;refine⟨⟨sv,iv,us,hB.kept hk (λhh=>ho _ hh ((fA hB).2 (.inl rfl))),yl.aH hk (λg hg hh=>ho g hh ((fA hB).2 (.inr (.inl hg)))),ff.aH hk (λg hg hh=>ho g hh ((fA hB).2 (.inr (.inr hg)))),uV,gE,iC,mV,λi u s h1 h2=>?_⟩,h.lt,by have:=h.le;omega,h.few,h.num,h.sum⟩;refine(rB i u s h1 h2).Qn (λ_=>by simp[bF]) hk (λi hi=>.inl (.inr hi)) (λb hb=>?_);rcases hb with (hb|hb)|hb|hb|hb
 ·exact .inl (.inl (.inl hb))
 ·rcases hn b hb with h3|h3
  ·exact .inl (.inl (.inr h3))
  exact .inr h3
 ·exact .inl (.inr (.inl hb))
 ·exact .inl (.inr (.inr (.inl hb)))
 exact .inl (.inr (.inr (.inr hb)))
theorem gm.aAV {mb:Nat}{w w1 w2:World}(h:gm mb w w1)(hk:Kept (λi=>w.heap.size<=i) w1 w2)(aq:mb<w.heap.size):gm mb w w2 :=
 ⟨h.kept.trans hk (λi hi hm=>by omega),λi hi=>h.own i (by
  rcases hi with hi|⟨o,v,e1,e2⟩
  ·exact .inl hi
  refine .inr ⟨o,v,?_,e2⟩;have hb:=hk.block mb (by have:=h.kept.size;omega) (by omega);have:w2.cell? ⟨mb,o,none⟩=w1.cell? ⟨mb,o,none⟩:=by simp only[World.cell?,hb]
  rw[<-this];exact e1)⟩
theorem Ext.set {a b:aE}{k:Nat}{y:I3}(h:Ext a b)(hk:a.ins.length<=k):Ext a ⟨b.sets,b.ins.set k y⟩:=⟨λj x hx=>by
 show (b.ins.set k y)[j]?=some x
 have hj:=(List.getElem?_eq_some_iff.1 hx).1;rw[List.getElem?_set,if_neg (by omega)];exact h.ins j x hx,h.sets,by have:=h.sum;simp only[List.length_set];omega⟩
theorem eZ.set {a b:aE}{p q k:Nat}{y:I3}(h:eZ a b p q)(hk:k<p\/q<=k):eZ a ⟨b.sets,b.ins.set k y⟩ p q:=⟨λj h1 h2=>by
 show (b.ins.set k y)[j]?=_
 rw[List.getElem?_set,if_neg (by omega)];exact h.1 j h1 h2,h.2⟩
theorem eZ.push {a b:aE}{p q:Nat}{x:I3}(h:eZ a b p q)(hq:q<=b.ins.length):eZ a (aE.push b x) p q:=⟨λj h1 h2=>by
 show (b.ins++[x])[j]?=_
 rw[List.getElem?_append_left (by omega)];exact h.1 j h1 h2,h.2⟩
theorem sq (c:aE)(x:I3):(aE.push c x).ins[c.ins.length]?=some x:=by
 show (c.ins++[x])[c.ins.length]?=_
 rw[List.getElem?_append_right (Nat.le_refl _),Nat.sub_self];rfl
theorem pR (c:aE)(x:I3):(aE.push c x).ins.length=c.ins.length+1:=by simp[aE.push]
theorem aGb (l:List aG)(cf:l≠[])(cg:∀y∈l,ot y):∀(bI:dE l) (j8:∀y∈l,wd y<=100000) (AV:l.length<=100000) (nm:bK) (jg:∀y∈l,iY nm y=none) (hr:iG nm) (B mb nb:Nat) (back:Bool) (X Z:Nat->Prop) (w:World) (c:aE) (v:Value) (vs:List Nat) (h:Mk B mb nb back X w c) (hX:∀b,X b->(Z b\/b=mb\/B<=b)/\b<w.heap.size) (kL:nb<mb) (hN:fu (λb=>Z b\/b=mb\/B<=b) w nb nm) (hs:Sl (λb=>Z b\/b=mb\/B<=b) 1 (En fU) w v vs) (hV:aR (λb=>Z b\/b=mb\/B<=b) w vs l) (r5:c.sets.length<=c.ins.length),
  Az Tryz.prog 138 [.pointer (some ⟨mb,0,none⟩),v] w
  (λr w'=>(∃c',Mk B mb nb back X w' c'/\Ext c c'/\c'.ins.length=c.ins.length+fZ l/\mP (bC nm) c' back l c.ins.length c'.ins.length)/\gm mb w w')
  (λce w'=>2000<c.ins.length+fZ l/\NA 4 ce/\gm mb w w'):=by
 intro bI j8 AV nm jg hr B mb nb back X Z w c v vs h hX kL hN hs hV r5;have hvl:=hV.len;have aq:=h.lt;have hle:=h.le;obtain⟨pa,pc,rfl,aHH⟩:=hs.shape;have aLY:0<l.length:=List.length_pos_iff.2 cf;refine bR Tryz.func138 rfl (by kernel_rfl) [] rfl ?_;push_cast -dsimp(maxSteps:=9^7) [Tryz.ntmps138];refine aK [4,5,6,7,12,13,14,15,16,17,18,19,20,21,22,23,24,25,26,27,28,29,30,31,32,33,34,35,36,37,38,39,40,41,42,43,44,45,46,47,48,49,50,51,52,53,54,55,56,57] (λz wx=>∃(i:Nat) (ci:aE) (js:List Nat) (ov:Value),z 12=.int .i64 i/\z 4=ov/\i<l.length/\Mk B mb nb back (λb=>X b\/ov.ownBlock=some b) wx ci/\Ext c ci/\ci.ins.length+fZ (l.drop i)=c.ins.length+fZ l/\mu (bC nm) ci back (l.take i) c.ins.length js ci.ins.length/\js.length=i/\Vc.Own w.heap.size 3 1 aX wx ov js/\gm mb w wx) (λz _=>l.length-(intOf (z 12)).toNat) ?_ ?_
 ·exact⟨0,c,[],_,rfl,rfl,aLY,h.iT (λb hb=>hb.elim id (λh=>by cases h)),Ext.refl c,by simp,by simp[mu],rfl,Vc.Own.nil (enc:=aX) _ _ (λ_=>rfl) _,gm.refl (by omega)⟩
 intro z wx hI;obtain⟨i,ci,js,ov,AK,h4,hi,Ds,Dr,Ki,hJx,hjl,Sn,kx⟩:=hI;have Tl:=kx.out h;have zx:=kx.kept.size;have fq:=Sn.block;have aC2:=Ds.off Sn (by decide) (by decide) (by omega);obtain⟨y,hy,Fa,hyd,hyt⟩:=ag (l:=l) (i:=i) hi;obtain⟨u,hu,hVy⟩:=aR.nth hV hy;obtain⟨b1,o,rfl,_,aM⟩:=(hs.kept Tl (λ_ h=>.inr h)).get hu;have c0:wx.cell? ⟨b1,o+i,none⟩=some (.pointer (some ⟨u,0,none⟩)):=by simpa[fU,bx] using aM 0 _ rfl
 have jE:fZ (l.drop i)=if l.drop (i+1)=[] then bO y else bO y+2+fZ (l.drop (i+1)):=by rw[hyd,fZ]
 have hXx:∀b,(X b\/ov.ownBlock=some b)->(Z b\/b=mb\/B<=b)/\b<wx.heap.size:=λb hb=>by
  rcases hb with hb|hb
  ·have:=hX b hb;exact⟨this.1,by omega⟩
  have:=fq b hb;exact⟨.inr (.inr (by omega)),this.2⟩
 have pG:ci.sets.length<=ci.ins.length:=by have:=Dr.sum;omega
 have Ae:∀(w1:World),gm mb wx w1->fu (λb=>Z b\/b=mb\/B<=b) w1 nb nm/\au (λb=>Z b\/b=mb\/B<=b) w1 (bx u) y:=λw1 k1=>by
  have ko:=Tl.trans (k1.out Ds) (λ_ _ h=>h);exact⟨fu.kept hN ko (λ_ h=>.inr h) (λh=>by rcases h with h|h<;>omega) (λ_ h=>h),au.mono ko (λ_ h=>.inr h) (λ_ h=>h) hVy⟩
 push_cast -dsimp[AK,h4,c0];refine⟨λaWb=>⟨⟨by omega,by omega⟩,⟨by omega,by omega⟩,λBu=>?_,λhnl=>?_⟩,λeo=>by omega⟩
 ·have aQr:i+1=l.length:=by omega
  have hd0:l.drop (i+1)=[]:=List.drop_eq_nil_of_le (by omega);rw[if_pos hd0]at jE;refine aF (cg y Fa (fz bI Fa) (j8 y Fa) nm (jg y Fa) hr B mb nb back _ Z wx ci _ Ds hXx kL (Ae wx (gm.refl (by omega))).1 (Ae wx (gm.refl (by omega))).2 pG) ?_ ?_
  ·rintro _ wy ⟨⟨cy,hMy,QI,hly,qe⟩,ky⟩;have zy:=ky.kept.size;have vg:=Sn.aH ky.kept (λg hg hm=>aC2 g hg hm);have hJy:mu (bC nm) cy back (l.take i) c.ins.length js ci.ins.length:=yU _ _ _ _ (QI.same (Nat.le_refl _)) hJx;have aHn:=(xP _ _ _ _ hJy).2;obtain⟨oa,oc,rfl⟩:=Sn.slice;have e:∃e,e=cy.ins.length:=⟨_,rfl⟩;obtain⟨e,he⟩:=e;have hXy:∀b,(X b\/(Value.slice oa js.length oc).ownBlock=some b)->(Z b\/b=mb\/B<=b)/\b<wy.heap.size:=λb hb=>by
    have:=hXx b hb;exact⟨this.1,by omega⟩
   push_cast -dsimp;refine aK [9,60,61,62,63,64,65,66,67,68,69,70,71,72,73,74] (λz wz=>∃(t:Nat) (ct:aE),z 60=.int .i64 t/\t<=js.length/\Mk B mb nb back (λb=>X b\/(Value.slice oa js.length oc).ownBlock=some b) wz ct/\lM cy ct (js.take t) (λx=>⟨x.op,(e:Int),x.b⟩)/\Vc.Own w.heap.size 3 1 aX wz (.slice oa js.length oc) js/\gm mb w wz) (λz _=>js.length-(intOf (z 60)).toNat) ?_ ?_
   ·exact⟨0,cy,rfl,Nat.zero_le _,hMy,lM.nil cy _,vg,kx.trans ky⟩
   intro z wz hI;obtain⟨t,ct,h60,ht,KU,xy,hOz,kz⟩:=hI;have zz:=kz.kept.size;have Y7:=KU.off hOz (by decide) (by decide) (by omega);have hlz:=xy.len;push_cast -dsimp[h60];refine⟨λBv=>?_,λeo=>?_⟩
   ·obtain⟨k,hk,vB,_,hkt⟩:=ag (l:=js) (i:=t) (by omega);obtain⟨bj,oj,hej,_,rT⟩:=hOz.sl.get hk;cases hej;have cj:wz.cell? ⟨bj,oj+t,none⟩=some (.int .i64 (k:Int)):=by simpa[aX] using rT 0 _ rfl
    have QW:k<ct.ins.length:=by have:=aHn k vB;have:=hly;omega
    obtain⟨xk,Vk,_⟩:=ag (l:=ct.ins) (i:=k) QW;push_cast -dsimp[cj];refine⟨⟨by omega,by omega⟩,?_⟩;have gL:=(KU).st;obtain⟨Uy,ivP,usP,pD⟩:=gL;have iU:=pD.2.2.1;obtain⟨iaP,yK,rfl⟩:=iU.slice;have TJ:=iU.sl.get Vk;obtain⟨gP,oP,eP,_,_⟩:=TJ;subst eP;have yF:oP=0:=Vc.Own.at0 iU;subst yF;have TO:=(List.getElem?_eq_some_iff.1 Vk).1;have F7:=(KU).num;have Sb:(wz).drew.cell? ⟨mb,1,none⟩=some (.slice (some ⟨gP,0,none⟩) (ct).ins.length yK):=pD.1.drew.cell rfl;refine eC (λw'=>aN w' mb 200 [Uy,.slice (some ⟨gP,0,none⟩) (ct).ins.length yK,.map (some nb),.bool back]) mixed (by kernel_rfl) (by simp) pD.1.drew ?_;push_cast -dsimp[Sb];refine⟨λbQ h=>by rw[h.cell (o:=1) rfl];exact rfl,?_⟩;have iV:=da (wz);refine aA (qA ((KU).below iV)) ?_;rintro _ _ ⟨rfl,rfl⟩;refine⟨pD.1.drew,?_⟩;push_cast -dsimp;refine⟨⟨by omega,by omega⟩,?_⟩;have xx:Vc.Own B 164 3 bX (wz).drew (.slice (some ⟨gP,0,none⟩) (ct).ins.length yK) (ct).ins:=iU.aH ((Kept.refl (λ_=>False) (wz)).drew) (λ_ _ h=>h);refine gR (i:=k) (f:=1) (x:=xk) (y:=(⟨xk.op,(ct.ins.length:Int),xk.b⟩:I3)) xx rfl Vk (by decide) rfl rfl ?_;intro wP Sk TM zP;have TS:=Mk.patch ((KU).below iV) (pD.below iV) rfl Sk TM;obtain⟨qm,kR⟩:=TS;have gL:gm mb (wz) wP:=(gm.below iV (by have:=(KU).lt;have:=(KU).le;omega)).trans kR;refine⟨trivial,?_⟩;push_cast -dsimp;have hTn:=lM.step (g:=λx=>⟨x.op,(e:Int),x.b⟩) (λx=>rfl) xy Vk;rw[<-hkt]at hTn;have hec:(e:Int)=(ct.ins.length:Int):=by rw[he,hlz]
    rw[hec]at hTn xy;refine⟨⟨by omega,by omega⟩,⟨t+1,_,rfl,by omega,qm,by rw[hec];exact hTn,hOz.aH gL.kept (λg hg hm=>Y7 g hg hm),kz.trans gL⟩,by rw[h60];simp only[intOf];omega⟩
   have Mj:t=js.length:=by omega
   rw[Mj,List.take_length]at xy;have TN:l.take i++[y]=l:=by rw[<-hyt,List.take_of_length_le (by omega)]
   have hA:mP (bC nm) ct back l c.ins.length e:=by
    have:=aAB (y:=y) (l.take i) c.ins.length ci.ins.length e js xy hJy (by rw[he];exact qe) (λk hk=>by have:=aHn k hk;omega);rw[TN]at this;exact this
   have aCM:∀k∈js,c.ins.length<=k:=λk hk=>by have:=(aHn k hk).1;omega
   refine⟨⟨ct,KU.iT (λb hb=>.inl hb),⟨λk x hx=>?_,λk s hs=>?_,?_⟩,by rw[hlz];omega,by rw[hlz,<-he];exact hA⟩,kz⟩
   ·have hk:=(List.getElem?_eq_some_iff.1 hx).1;rw[xy.ins k,if_neg (λhm=>by have:=aCM k hm;omega)];exact(Dr.trans QI).ins k x hx
   ·rw[xy.sets];exact(Dr.trans QI).sets k s hs
   have:=(Dr.trans QI).sum;rw[xy.sets,hlz];exact this
  rintro ce wy ⟨oX,ht,ky⟩;push_cast -dsimp;exact⟨by omega,ht,kx.trans ky⟩
 ·have hd1:l.drop (i+1)≠[]:=by intro hd;have:=congrArg List.length hd;simp at this;omega
  rw[if_neg hd1]at jE;refine aF (vL Ds (by omega) ⟨2,0,0⟩) ?_ ?_
  ·rintro _ w1 ⟨yq,rfl,Md,k1⟩;have z1:=k1.kept.size;have Em:=sq ci ⟨2,0,0⟩;have hn1:=pR ci ⟨2,0,0⟩;push_cast -dsimp;have gL:=(Md).st;obtain⟨Uy,ivP,usP,pD⟩:=gL;have iU:=pD.2.2.1;obtain⟨iaP,yK,rfl⟩:=iU.slice;have TJ:=iU.sl.get Em;obtain⟨gP,oP,eP,_,_⟩:=TJ;subst eP;have yF:oP=0:=Vc.Own.at0 iU;subst yF;have TO:=(List.getElem?_eq_some_iff.1 Em).1;have F7:=(Md).num;have Sb:(w1).drew.cell? ⟨mb,1,none⟩=some (.slice (some ⟨gP,0,none⟩) ((aE.push ci ⟨2,0,0⟩)).ins.length yK):=pD.1.drew.cell rfl;refine eC (λw'=>aN w' mb 200 [Uy,.slice (some ⟨gP,0,none⟩) ((aE.push ci ⟨2,0,0⟩)).ins.length yK,.map (some nb),.bool back]) mixed (by kernel_rfl) (by simp) pD.1.drew ?_;push_cast -dsimp[Sb];refine⟨λbQ h=>by rw[h.cell (o:=1) rfl];exact rfl,?_⟩;have iV:=da (w1);refine aA (qA ((Md).below iV)) ?_;rintro _ _ ⟨rfl,rfl⟩;refine⟨pD.1.drew,?_⟩;push_cast -dsimp;refine⟨⟨by omega,by omega⟩,?_⟩;have xx:Vc.Own B 164 3 bX (w1).drew (.slice (some ⟨gP,0,none⟩) ((aE.push ci ⟨2,0,0⟩)).ins.length yK) ((aE.push ci ⟨2,0,0⟩)).ins:=iU.aH ((Kept.refl (λ_=>False) (w1)).drew) (λ_ _ h=>h);refine gR (i:=ci.ins.length) (f:=1) (x:=(⟨2,0,0⟩:I3)) (y:=(⟨2,((aE.push ci ⟨2,0,0⟩).ins.length:Int),0⟩:I3)) xx rfl Em (by decide) rfl rfl ?_;intro wP Sk TM zP;have TS:=Mk.patch ((Md).below iV) (pD.below iV) rfl Sk TM;obtain⟨qm,kR⟩:=TS;have gL:gm mb (w1) wP:=(gm.below iV (by have:=(Md).lt;have:=(Md).le;omega)).trans kR;refine⟨trivial,?_⟩;push_cast -dsimp
   have EX:∃c1:aE,c1=⟨(aE.push ci ⟨2,0,0⟩).sets,(aE.push ci ⟨2,0,0⟩).ins.set ci.ins.length ⟨2,((aE.push ci ⟨2,0,0⟩).ins.length:Int),0⟩⟩:=⟨_,rfl⟩;obtain⟨c1,EX⟩:=EX;rw[<-EX]at qm;have aQB:c1.ins.length=ci.ins.length+1:=by rw[EX];simp[aE.push]
   have QU:c1.ins[ci.ins.length]?=some ⟨2,((ci.ins.length+1:Nat):Int),0⟩:=by
    rw[EX]
    show ((aE.push ci ⟨2,0,0⟩).ins.set ci.ins.length _)[ci.ins.length]?=_
    rw[List.getElem?_set,if_pos rfl,if_pos (by omega),hn1]
   have hE1:Ext ci c1:=by rw[EX];exact(Ext.push ci _).set (Nat.le_refl _)
   have Yg:c1.sets=ci.sets:=by rw[EX];rfl
   have kP:gm mb wx wP:=k1.trans gL;have zP':=kP.kept.size;have aLP:=Ae wP kP;refine aF (cg y Fa (fz bI Fa) (j8 y Fa) nm (jg y Fa) hr B mb nb back _ Z wP c1 _ qm (λb hb=>by have:=hXx b hb;exact⟨this.1,by omega⟩) kL aLP.1 aLP.2 (by rw[Yg];omega)) ?_ ?_
   ·rintro _ wq ⟨⟨c2,He,hE2,oX,iC⟩,k2⟩;have kq:=kP.trans k2;have zq:=kq.kept.size;push_cast -dsimp;have aTv:c2.sets.length<=c2.ins.length:=by have:=hE2.sum;rw[Yg]at this;omega
    refine aF (vL He (by omega) ⟨3,0,0⟩) ?_ ?_
    ·rintro _ w3 ⟨QX,rfl,Hf,k3⟩;have kx3:=kq.trans k3;have z3:=kx3.kept.size;have Mf:=Sn.aH kx3.kept (λg hg hm=>aC2 g hg hm);have aTe:=Hf.off Mf (by decide) (by decide) (by omega);have hn3:=pR c2 ⟨3,0,0⟩;push_cast -dsimp;refine cF ay rfl rfl (by omega) ?_;intro w4 aj;have z4:=aj.size;have hM4:=Hf.below aj.below;have xw:=Mf.new aj;have aL8:=hM4.off xw (by decide) (by decide) (by omega);push_cast -dsimp;refine aP (base:=w.heap.size) [c2.ins.length] (enc:=aX) ay xw (by rfl) (λj u hu=>by rw[Nat.zero_add];exact aj.cell hu) (by simp[aX,Value.oneCell']) (by simp only[List.length_cons,List.length_nil];omega) (by omega) ?_;intro v5 w5 kF tM yr;have aHr:Kept (λj=>ov.ownBlock=some j) w4 w5:=Kept.grown tM (λ_ h=>h);have z5:=aHr.size;have ES:=hM4.aAV aL8 aHr yr;have kx5:gm mb w w5:=(kx.trans (kx3.trans (gm.below aj.below (by have:=Hf.lt;have:=Hf.le;omega)))).aAV (aHr.weaken (λj _ h=>(fq j h).1)) (by omega);have Y6:=ES.off kF (by decide) (by decide) (by omega);have Dz:(aE.push c2 ⟨3,0,0⟩).ins[ci.ins.length]?=some ⟨2,((ci.ins.length+1:Nat):Int),0⟩:=(Ext.push c2 _).ins _ _ (hE2.ins _ _ QU);push_cast -dsimp;have gL:=(ES).st;obtain⟨Uy,ivP,usP,pD⟩:=gL;have iU:=pD.2.2.1;obtain⟨iaP,yK,rfl⟩:=iU.slice;have TJ:=iU.sl.get Dz;obtain⟨gP,oP,eP,_,_⟩:=TJ;subst eP;have yF:oP=0:=Vc.Own.at0 iU;subst yF;have TO:=(List.getElem?_eq_some_iff.1 Dz).1;have F7:=(ES).num;have Sb:(w5).drew.cell? ⟨mb,1,none⟩=some (.slice (some ⟨gP,0,none⟩) ((aE.push c2 ⟨3,0,0⟩)).ins.length yK):=pD.1.drew.cell rfl
     refine eC (λw'=>aN w' mb 200 [Uy,.slice (some ⟨gP,0,none⟩) ((aE.push c2 ⟨3,0,0⟩)).ins.length yK,.map (some nb),.bool back]) mixed (by kernel_rfl) (by simp) pD.1.drew ?_;push_cast -dsimp[Sb];refine⟨λbQ h=>by rw[h.cell (o:=1) rfl];exact rfl,?_⟩;have iV:=da (w5);refine aA (qA ((ES).below iV)) ?_;rintro _ _ ⟨rfl,rfl⟩;refine⟨pD.1.drew,?_⟩;push_cast -dsimp;refine⟨⟨by omega,by omega⟩,?_⟩;have xx:Vc.Own B 164 3 bX (w5).drew (.slice (some ⟨gP,0,none⟩) ((aE.push c2 ⟨3,0,0⟩)).ins.length yK) ((aE.push c2 ⟨3,0,0⟩)).ins:=iU.aH ((Kept.refl (λ_=>False) (w5)).drew) (λ_ _ h=>h);refine gR (i:=ci.ins.length) (f:=2) (x:=(⟨2,((ci.ins.length+1:Nat):Int),0⟩:I3)) (y:=(⟨2,((ci.ins.length+1:Nat):Int),((aE.push c2 ⟨3,0,0⟩).ins.length:Int)⟩:I3)) xx rfl Dz (by decide) rfl rfl ?_;intro wP Sk TM zP;have TS:=Mk.patch ((ES).below iV) (pD.below iV) rfl Sk TM;obtain⟨qm,kR⟩:=TS;have gL:gm mb (w5) wP:=(gm.below iV (by have:=(ES).lt;have:=(ES).le;omega)).trans kR;refine⟨trivial,?_⟩;push_cast -dsimp;have TE:∃c4:aE,c4=⟨(aE.push c2 ⟨3,0,0⟩).sets,(aE.push c2 ⟨3,0,0⟩).ins.set ci.ins.length ⟨2,((ci.ins.length+1:Nat):Int),((aE.push c2 ⟨3,0,0⟩).ins.length:Int)⟩⟩:=⟨_,rfl⟩;obtain⟨c4,TE⟩:=TE;rw[<-TE]at qm;have hn4:c4.ins.length=c2.ins.length+1:=by rw[TE];simp[aE.push]
     have QH:Ext ci c4:=by rw[TE];exact((hE1.trans hE2).trans (Ext.push c2 _)).set (Nat.le_refl _)
     have hk4:c4.ins[ci.ins.length]?=some ⟨2,((ci.ins.length+1:Nat):Int),((c2.ins.length+1:Nat):Int)⟩:=by
      rw[TE]
      show ((aE.push c2 ⟨3,0,0⟩).ins.set ci.ins.length _)[ci.ins.length]?=_
      rw[List.getElem?_set,if_pos rfl,if_pos (by omega),hn3]
     have hj4:c4.ins[c2.ins.length]?=some ⟨3,0,0⟩:=by
      rw[TE]
      show ((aE.push c2 ⟨3,0,0⟩).ins.set ci.ins.length _)[c2.ins.length]?=_
      rw[List.getElem?_set,if_neg (by omega)];exact sq c2 _
     have hs4:eZ c2 c4 (ci.ins.length+1) c2.ins.length:=by
      rw[TE];exact eZ.set (eZ.push ((Ext.refl c2).same (Nat.le_refl _)) (Nat.le_refl _)) (.inl (by omega))
     have hJ4:mu (bC nm) c4 back (l.take (i+1)) c.ins.length (js++[c2.ins.length]) c4.ins.length:=by
      rw[hyt];refine Lr _ _ _ ci.ins.length _ _ _ (yU _ _ _ _ (QH.same (Nat.le_refl _)) hJx) ?_;simp only[mu];rw[aQB]at iC;exact⟨c2.ins.length,[],rfl,hk4,dp _ _ _ hs4 iC,hj4,rfl,hn4.symm⟩
     have tI:=kF.aH gL.kept (λg hg hm=>Y6 g hg hm);exact⟨⟨by omega,by omega⟩,⟨i+1,c4,_,_,rfl,rfl,by omega,qm,Dr.trans QH,by omega,hJ4,by simp[hjl],tI,kx5.trans gL⟩,by rw[AK];simp only[intOf];omega⟩
    rintro ce w3 ⟨QX,ht,k3⟩;push_cast -dsimp;exact⟨by omega,ht,kx.trans (kq.trans k3)⟩
   rintro ce wq ⟨oX,ht,k2⟩;push_cast -dsimp;exact⟨by omega,ht,kx.trans (kP.trans k2)⟩
  rintro ce w1 ⟨oX,ht,k1⟩;push_cast -dsimp;exact⟨by omega,ht,kx.trans k1⟩
end Go.Proofs.YtemjejfpadnljaaGreatDoor
namespace Go.Vc
section
variable {P:Program}
def XR (id:Nat)(Q:EP)(M:List Nat)(t:Fr)(J:(Nat->Value)->World->Prop)(_:Ph (Q,t,J)):EP
 | .exit i,t',w'=>i=id/\t'=ov t M (at_ t')/\J (at_ t') w'
 | .panic c,t',w'=>Q (.panic c) t' w'
 | _,_,_=>False
theorem Ma {c:Code}{id:Nat}{t:Fr}{w:World}{Q:EP}{p q}(M:List Nat)(J:(Nat->Value)->World->Prop)(h1:dN P c (XR id Q M t J .mk) t w .mk)
  (h2:∀z w',J z w'->Q .normal (ov t M z) w'):dN P c (kN id Q p) t w q:=by
 refine Mb ?_ h1;intro e t' w' h;cases e<;>simp only[XR]at h
 case exit i =>
  obtain⟨rfl,ht,hJ⟩:=h;rw[yd,ht];exact h2 _ _ hJ
 case panic c=>exact h
theorem SF {id:Nat}{Q:EP}{M:List Nat}{t t':Fr}{w':World}{J:(Nat->Value)->World->Prop}(p):XR id Q M t J p (.exit id) t' w'=(t'=ov t M (at_ t')/\J (at_ t') w'):=by simp[XR]
theorem NY {id:Nat}{Q:EP}{M:List Nat}{t t':Fr}{w':World}{J:(Nat->Value)->World->Prop}(c)(p):XR id Q M t J p (.panic c) t' w'=Q (.panic c) t' w':=(rfl)
attribute [push_cast] SF NY
end
end Go.Vc
namespace Cae
section
theorem Tc {S:Nat->Nat->Prop}{b:Nat}(hb:S b b):∀{n m a:Nat},n<=m->iterM S n a b->iterM S m a b
 | n,m,a,oo,h=>by
  obtain⟨d,rfl⟩:=Nat.le.dest oo;clear oo;induction d with
  | zero=>exact h
  | succ d ih=>exact kU.2 ⟨b,ih,hb⟩
end
section
section
variable {has:bB->Int->Prop} {c:aE} {back:Bool}
structure iE (has:bB->Int->Prop)(back:Bool)(x:aG)(c:aE):Prop where
 seg:ik has c back x 0 (bO x)
 len:c.ins.length=bO x+1
 yes:c.ins[bO x]?=some ⟨5,0,0⟩
 aRy:c.ins.length<=2000
 sets:c.sets.length<=c.ins.length
 right:∀s∈c.sets,aO (-2) s=true
theorem iE.ok {x:aG}(h:iE has back x c):aW c=true:=by
 have hl:=h.len;have hm:=h.aRy;have hs:=h.sets;have hr:=ig x 0 (bO x) (bO x+1) (by omega) h.seg;unfold aW;simp only[Bool.and_eq_true,decide_eq_true_eq,List.all_eq_true];refine⟨⟨⟨⟨by omega,by omega,by omega⟩,?_⟩,λy hy=>?_⟩,h.right⟩
 ·rw[show c.ins.length-1=bO x by omega,h.yes]
  rfl
 obtain⟨k,hk⟩:=List.getElem?_of_mem hy;have aq:=(List.getElem?_eq_some_iff.1 hk).1;rw[hl];by_cases hc:k<bO x
 ·obtain⟨z,h1,h2⟩:=hr k (Nat.zero_le _) hc;rw[h1]at hk;cases hk;exact h2
 have e:k=bO x:=by omega
 rw[e,h.yes]at hk;cases hk;exact Ud
theorem iE.ZR {x:aG}{az:List Int}{i:Nat}(h:iE has back x c)(x8:∀p∈az,0<=p/\p<=1114111)(bI:bD x)(hi:i<=az.length):(fK c (GC az back i)).1=true↔ma has az x i back :=
 (n0 (CR.of h.ok) _).trans (Oo x8 bI h.seg h.yes hi)
end
def BC (has:bB->Int->Prop)(f:dX)(p:bh):Prop:=p.els=f.els/\dT (λ(r:bo) (q:cQ)=>r.brk=q.brk/\iE has true q.before r.before/\iE has false q.after r.after) p.rules f.rules
section
variable {has:bB->Int->Prop} {az:List Int}
theorem ZW {r:bo}{q:cQ}(x8:∀p∈az,0<=p/\p<=1114111)(bI:bD q.before/\bD q.after)(h:r.brk=q.brk/\iE has true q.before r.before/\iE has false q.after r.after){i:Nat}(hi:i<=az.length):fi az i r=true↔u5 has az q i:=by
 unfold fi u5;rw[Bool.and_eq_true];exact and_congr (h.2.1.ZR x8 bI.1 hi) (h.2.2.ZR x8 bI.2 hi)
theorem On {els:Bool}{i:Nat}(x8:∀p∈az,0<=p/\p<=1114111)(hi:i<=az.length):∀{l:List bo} {m:List cQ},dT (λ(r:bo) (q:cQ)=>r.brk=q.brk/\iE has true q.before r.before/\iE has false q.after r.after) l m->(∀q∈m,bD q.before/\bD q.after)->l.foldr (λr acc=>if fi az i r then r.brk else acc) els=oG has az els i m:=by
 intro l m h;induction h with
 | nil=>intro _;rfl
 | @cons r q l m h1 h2 ih =>
  intro bI;rw[List.foldr_cons,oG,ih λq hq=>bI q (List.mem_cons_of_mem _ hq)];have hm:=ZW x8 (bI q (List.mem_cons_self ..)) h1 hi;by_cases hq:u5 has az q i
  ·rw[if_pos hq,if_pos (hm.2 hq),h1.1]
  rw[if_neg hq,if_neg (λhh=>hq (hm.1 hh))]
theorem J9 {f:dX}{p:bh}(x8:∀q∈az,0<=q/\q<=1114111)(bI:∀q∈f.rules,bD q.before/\bD q.after)(h:BC has f p):dH p az=mT has az f.rules f.els:=by
 unfold dH mT bg;by_cases cf:az=[]
 ·rw[if_pos cf,if_pos cf]
 rw[if_neg cf,if_neg cf];refine List.filter_congr λi hi=>?_;rw[List.mem_range]at hi;unfold gz Q8 fJ;rw[List.drop_zero,h.1,On x8 (by omega) h.2 bI]
theorem BC.right {f:dX}{p:bh}(h:BC has f p)(hl:f.rules.length<=20):bL p=true:=by
 have hlen:=dT.len h.2;unfold bL;rw[Bool.and_eq_true,decide_eq_true_iff,List.all_eq_true];refine⟨by omega,λr hr=>?_⟩;have key:∀{l:List bo} {m:List cQ},dT (λ(r:bo) (q:cQ)=>r.brk=q.brk/\iE has true q.before r.before/\iE has false q.after r.after) l m->∀r∈l,aW r.before=true/\aW r.after=true:=by
  intro l m h;induction h with
  | nil=>intro r hr;cases hr
  | cons h1 _ ih =>
   intro r hr;rcases List.mem_cons.1 hr with rfl|hr
   ·exact⟨h1.2.1.ok,h1.2.2.ok⟩
   exact ih r hr
 have:=key h.2 r hr;rw[this.1,this.2];rfl
end
end
end Cae
namespace Go.Proofs.YtemjejfpadnljaaGreatDoor
open Go.Vc Go.Proofs Go.RowKit Cae
attribute [local irreducible] dN ae ak aY runK aw Sl Vc.Own vc aV cJ a7
theorem Wx (x:aG)(lo hi:Int)(hx:ot x)(bI:bD (.many x lo hi))(j8:wd x<=100000)(nm:bK)(jg:iY nm x=none)(hr:iG nm)(B mb nb:Nat)(back:Bool)(X Z:Nat->Prop)(w:World)(c:aE)(v:Value)(h:Mk B mb nb back X w c)(hX:∀b,X b->(Z b\/b=mb\/B<=b)/\b<w.heap.size)(kL:nb<mb)(hN:fu (λb=>Z b\/b=mb\/B<=b) w nb nm)(hV:au (λb=>Z b\/b=mb\/B<=b) w v (.many x lo hi))(r5:c.sets.length<=c.ins.length) :
  Az Tryz.prog 139 [.pointer (some ⟨mb,0,none⟩),v] w
  (λr w'=>(∃c',Mk B mb nb back X w' c'/\Ext c c'/\c'.ins.length=c.ins.length+bO (.many x lo hi)/\ik (bC nm) c' back (.many x lo hi) c.ins.length c'.ins.length)/\gm mb w w')
  (λce w'=>2000<c.ins.length+bO (.many x lo hi)/\NA 4 ce/\gm mb w w'):=by
 have aq:=h.lt;have hle:=h.le;simp only[bD]at bI;obtain⟨aHD,aWo,aLX,aLR,hlh⟩:=bI;simp only[au]at hV;obtain⟨xb,psv,u,rfl,xa,hB,hs,Ss⟩:=hV;obtain⟨pa,pc,rfl,aHH⟩:=hs.shape;obtain⟨b1,o,rfl,_,aM⟩:=hs.get (i:=0) (x:=u) rfl;have Ag:∃n:Nat,lo=n:=⟨lo.toNat,by omega⟩;obtain⟨n,rfl⟩:=Ag;have c0:w.cell? ⟨b1,o,none⟩=some (.pointer (some ⟨u,0,none⟩)):=by simpa[fU,bx] using aM 0 _ rfl
 have aLf:b1≠mb/\¬B<=b1:=by
  have h1:=hs.get (i:=0) (x:=u) rfl;obtain⟨b',o',e,cf,_⟩:=h1;cases e;exact⟨λe=>cf (.inr (.inl e)),λe=>cf (.inr (.inr e))⟩
 have Kd:∀w1,Kept (λb=>b=mb\/B<=b) w w1->aN w1 xb 158 [.int .i64 6,.pointer none,.slice (some ⟨b1,o,none⟩) 1 pc,.int .i64 n,.int .i64 hi]/\w1.cell? ⟨b1,o,none⟩=some (.pointer (some ⟨u,0,none⟩))/\fu (λb=>Z b\/b=mb\/B<=b) w1 nb nm/\au (λb=>Z b\/b=mb\/B<=b) w1 (bx u) x:=λw1 k1 =>
  ⟨hB.kept k1 (λhh=>xa (.inr hh)),k1.cell c0 (λhh=>hh.elim aLf.1 aLf.2),fu.kept hN k1 (λ_ h=>.inr h) (λh=>by rcases h with h|h<;>omega) (λ_ h=>h),au.mono k1 (λ_ h=>.inr h) (λ_ h=>h) Ss⟩
 have hlen:=λ(ci:aE) (a b:Nat)=>fj (has:=bC nm) (c:=ci) (back:=back) x a b;have d3:w.cell? ⟨xb,3,none⟩=some (.int .i64 (n:Int)):=hB.cell rfl;refine bR Tryz.func139 rfl (by kernel_rfl) [] rfl ?_;push_cast -dsimp(maxSteps:=9^7) [Tryz.ntmps139];push_cast -dsimp[d3];refine Ma [4,15,16,17,18,19,20,21,22,23,24,25,26,27,28,29,30,31] (λz wx=>∃(ci:aE),Mk B mb nb back X wx ci/\Ext c ci/\ci.ins.length=c.ins.length+n*bO x/\iterM (ik (bC nm) ci back x) n c.ins.length ci.ins.length/\gm mb w wx) ?_ ?_
 ·refine aK [4,15,16,17,18,19,20,21,22,23,24,25,26,27,28,29,30,31] (λz wx=>∃(t:Nat) (ci:aE),z 15=.int .i64 t/\t<=n/\Mk B mb nb back X wx ci/\Ext c ci/\ci.ins.length=c.ins.length+t*bO x/\iterM (ik (bC nm) ci back x) t c.ins.length ci.ins.length/\gm mb w wx) (λz _=>n-(intOf (z 15)).toNat) ?_ ?_
  ·exact⟨0,c,rfl,Nat.zero_le _,h,Ext.refl c,by simp,rfl,gm.refl (by omega)⟩
  intro z wx hI;obtain⟨t,ci,h15,ht,Ds,Dr,Ki,hix,kx⟩:=hI;have Tl:=kx.out h;have zx:=kx.kept.size;obtain⟨lr,cx,hNx,hPx⟩:=Kd wx Tl;push_cast -dsimp[h15];have pG:ci.sets.length<=ci.ins.length:=by have:=Dr.sum;omega
  have hXx:∀b,X b->(Z b\/b=mb\/B<=b)/\b<wx.heap.size:=λb hb=>by have:=hX b hb;exact⟨this.1,by omega⟩
  refine⟨λBv=>?_,λeo=>?_⟩
  ·have hmul:(t+1)*bO x<=n*bO x:=Nat.mul_le_mul_right _ (by omega);have TW:(t+1)*bO x=t*bO x+bO x:=Nat.succ_mul _ _;refine aA (qA Ds) ?_;rintro _ w0 ⟨rfl,AW⟩;have AW:=AW.symm;subst AW;have e2:wx.cell? ⟨xb,2,none⟩=some (.slice (some ⟨b1,o,none⟩) 1 pc):=lr.cell rfl;push_cast -dsimp[e2,cx];refine aF (hx aHD j8 nm jg hr B mb nb back X Z _ ci _ Ds hXx kL hNx hPx pG) ?_ ?_
   ·rintro _ wy ⟨⟨cy,hMy,QI,hly,qe⟩,ky⟩;have hiy:iterM (ik (bC nm) cy back x) (t+1) c.ins.length cy.ins.length:=kU.2 ⟨ci.ins.length,mj (A:=c.ins.length) (B:=ci.ins.length) (λa b=>hlen ci a b) (λp q hp hq=>dp x p q ((QI.same (Nat.le_refl _)).sub hp hq)) _ _ _ (Nat.le_refl _) (Nat.le_refl _) hix,qe⟩;push_cast -dsimp;refine aA (qA hMy) ?_;rintro _ w0 ⟨rfl,AW⟩;have AW:=AW.symm;subst AW;push_cast -dsimp;refine⟨λheq=>?_,λcf=>?_⟩
    ·have h0:bO x=0:=by omega
     have bm:ik (bC nm) cy back x cy.ins.length cy.ins.length:=by
      have h1:=qe;have h2:ci.ins.length=cy.ins.length:=by omega
      rw[h2]at h1;exact h1
     exact⟨cy,hMy,Dr.trans QI,by rw[hly,Ki,h0];simp,Tc bm (by omega) hiy,kx.trans ky⟩
    exact⟨⟨by omega,by omega⟩,⟨t+1,cy,rfl,by omega,hMy,Dr.trans QI,by rw[hly,Ki,TW];omega,hiy,kx.trans ky⟩,by rw[h15];simp only[intOf];omega⟩
   rintro ce wy ⟨oX,ht2,ky⟩;push_cast -dsimp;exact⟨by simp only[bO,Int.toNat_natCast];omega,ht2,kx.trans ky⟩
  have htn:t=n:=by omega
  subst htn;exact⟨ci,Ds,Dr,Ki,hix,kx⟩
 intro z w1 hJ;obtain⟨c1,Md,hE1,yq,QR,k1⟩:=hJ;have k1o:=k1.out h;have z1:=k1.kept.size;obtain⟨oU,cx1,hN1,pE⟩:=Kd w1 k1o;have d4:w1.cell? ⟨xb,4,none⟩=some (.int .i64 hi):=oU.cell rfl;have gE:c1.sets.length<=c1.ins.length:=by have:=hE1.sum;omega
 have hX1:∀b,X b->(Z b\/b=mb\/B<=b)/\b<w1.heap.size:=λb hb=>by have:=hX b hb;exact⟨this.1,by omega⟩
 have jE:bO (.many x (n:Int) hi)=n*bO x+if hi<0 then bO x+2 else (hi-n).toNat*(bO x+1):=by simp only[bO,Int.toNat_natCast]
 push_cast -dsimp[d4];refine⟨λvw=>?_,λqB=>?_⟩
 ·rw[if_pos vw]at jE;refine aF (vL Md (by omega) ⟨2,0,0⟩) ?_ ?_
  ·rintro _ w2 ⟨oX,rfl,He,k2⟩;have z2:=k2.kept.size;have wE:=sq c1 ⟨2,0,0⟩;have hn2:=pR c1 ⟨2,0,0⟩;push_cast -dsimp;have gL:=(He).st;obtain⟨Uy,ivP,usP,pD⟩:=gL;have iU:=pD.2.2.1;obtain⟨iaP,yK,rfl⟩:=iU.slice;have TJ:=iU.sl.get wE;obtain⟨gP,oP,eP,_,_⟩:=TJ;subst eP;have yF:oP=0:=Vc.Own.at0 iU;subst yF;have TO:=(List.getElem?_eq_some_iff.1 wE).1;have F7:=(He).num;have Sb:(w2).drew.cell? ⟨mb,1,none⟩=some (.slice (some ⟨gP,0,none⟩) ((aE.push c1 ⟨2,0,0⟩)).ins.length yK):=pD.1.drew.cell rfl;refine eC (λw'=>aN w' mb 200 [Uy,.slice (some ⟨gP,0,none⟩) ((aE.push c1 ⟨2,0,0⟩)).ins.length yK,.map (some nb),.bool back]) mixed (by kernel_rfl) (by simp) pD.1.drew ?_;push_cast -dsimp[Sb];refine⟨λbQ h=>by rw[h.cell (o:=1) rfl];exact rfl,?_⟩;have iV:=da (w2);refine aA (qA ((He).below iV)) ?_;rintro _ _ ⟨rfl,rfl⟩;refine⟨pD.1.drew,?_⟩;push_cast -dsimp;refine⟨⟨by omega,by omega⟩,?_⟩;have xx:Vc.Own B 164 3 bX (w2).drew (.slice (some ⟨gP,0,none⟩) ((aE.push c1 ⟨2,0,0⟩)).ins.length yK) ((aE.push c1 ⟨2,0,0⟩)).ins:=iU.aH ((Kept.refl (λ_=>False) (w2)).drew) (λ_ _ h=>h);refine gR (i:=c1.ins.length) (f:=1) (x:=(⟨2,0,0⟩:I3)) (y:=(⟨2,((aE.push c1 ⟨2,0,0⟩).ins.length:Int),0⟩:I3)) xx rfl wE (by decide) rfl rfl ?_;intro wP Sk TM zP;have TS:=Mk.patch ((He).below iV) (pD.below iV) rfl Sk TM;obtain⟨qm,kR⟩:=TS;have gL:gm mb (w2) wP:=(gm.below iV (by have:=(He).lt;have:=(He).le;omega)).trans kR;refine⟨trivial,?_⟩;push_cast -dsimp
   have tJ:∃c2:aE,c2=⟨(aE.push c1 ⟨2,0,0⟩).sets,(aE.push c1 ⟨2,0,0⟩).ins.set c1.ins.length ⟨2,((aE.push c1 ⟨2,0,0⟩).ins.length:Int),0⟩⟩:=⟨_,rfl⟩;obtain⟨c2,tJ⟩:=tJ;rw[<-tJ]at qm;have aHy:c2.ins.length=c1.ins.length+1:=by rw[tJ];simp[aE.push]
   have nh:c2.ins[c1.ins.length]?=some ⟨2,((c1.ins.length+1:Nat):Int),0⟩:=by
    rw[tJ]
    show ((aE.push c1 ⟨2,0,0⟩).ins.set c1.ins.length _)[c1.ins.length]?=_
    rw[List.getElem?_set,if_pos rfl,if_pos (by omega),hn2]
   have hE2:Ext c1 c2:=by rw[tJ];exact(Ext.push c1 _).set (Nat.le_refl _)
   have Hx:c2.sets=c1.sets:=by rw[tJ];rfl
   have kP:gm mb w1 wP:=k2.trans gL;have zP':=kP.kept.size;obtain⟨hBP,cxP,hNP,hPP⟩:=Kd wP (k1o.trans (kP.out Md) (λ_ _ h=>h));have hXP:=λb hb=>(show (Z b\/b=mb\/B<=b)/\b<wP.heap.size from by have:=hX1 b hb;exact⟨this.1,by omega⟩)
   have e2:wP.cell? ⟨xb,2,none⟩=some (.slice (some ⟨b1,o,none⟩) 1 pc):=hBP.cell rfl;push_cast -dsimp[e2,cxP];refine aF (hx aHD j8 nm jg hr B mb nb back X Z _ c2 _ qm hXP kL hNP hPP (by rw[Hx];omega)) ?_ ?_
   ·rintro _ w4 ⟨⟨c3,Hf,QG,QX,mV⟩,k3⟩;have Ai:=kP.trans k3;have aTw:c3.sets.length<=c3.ins.length:=by have:=QG.sum;rw[Hx]at this;omega
    push_cast -dsimp;refine aF (vL Hf (by omega) ⟨3,(c1.ins.length:Int),0⟩) ?_ ?_
    ·rintro _ w5 ⟨Y2,rfl,ES,k5⟩;have Dz:(aE.push c3 ⟨3,(c1.ins.length:Int),0⟩).ins[c1.ins.length]?=some ⟨2,((c1.ins.length+1:Nat):Int),0⟩:=(Ext.push c3 _).ins _ _ (QG.ins _ _ nh);have yr:=pR c3 ⟨3,(c1.ins.length:Int),0⟩;push_cast -dsimp;have gL:=(ES).st;obtain⟨Uy,ivP,usP,pD⟩:=gL;have iU:=pD.2.2.1;obtain⟨iaP,yK,rfl⟩:=iU.slice;have TJ:=iU.sl.get Dz;obtain⟨gP,oP,eP,_,_⟩:=TJ;subst eP;have yF:oP=0:=Vc.Own.at0 iU;subst yF;have TO:=(List.getElem?_eq_some_iff.1 Dz).1;have F7:=(ES).num;have Sb:(w5).drew.cell? ⟨mb,1,none⟩=some (.slice (some ⟨gP,0,none⟩) ((aE.push c3 ⟨3,(c1.ins.length:Int),0⟩)).ins.length yK):=pD.1.drew.cell rfl;refine eC (λw'=>aN w' mb 200 [Uy,.slice (some ⟨gP,0,none⟩) ((aE.push c3 ⟨3,(c1.ins.length:Int),0⟩)).ins.length yK,.map (some nb),.bool back]) mixed (by kernel_rfl) (by simp) pD.1.drew ?_;push_cast -dsimp[Sb];refine⟨λbQ h=>by rw[h.cell (o:=1) rfl];exact rfl,?_⟩;have iV:=da (w5);refine aA (qA ((ES).below iV)) ?_;rintro _ _ ⟨rfl,rfl⟩;refine⟨pD.1.drew,?_⟩;push_cast -dsimp;refine⟨⟨by omega,by omega⟩,?_⟩;have xx:Vc.Own B 164 3 bX (w5).drew (.slice (some ⟨gP,0,none⟩) ((aE.push c3 ⟨3,(c1.ins.length:Int),0⟩)).ins.length yK) ((aE.push c3 ⟨3,(c1.ins.length:Int),0⟩)).ins:=iU.aH ((Kept.refl (λ_=>False) (w5)).drew) (λ_ _ h=>h);refine gR (i:=c1.ins.length) (f:=2) (x:=(⟨2,((c1.ins.length+1:Nat):Int),0⟩:I3)) (y:=(⟨2,((c1.ins.length+1:Nat):Int),((aE.push c3 ⟨3,(c1.ins.length:Int),0⟩).ins.length:Int)⟩:I3)) xx rfl Dz (by decide) rfl rfl ?_;intro wP Sk TM zP
     have TS:=Mk.patch ((ES).below iV) (pD.below iV) rfl Sk TM;obtain⟨qm,kR⟩:=TS;have gL:gm mb (w5) wP:=(gm.below iV (by have:=(ES).lt;have:=(ES).le;omega)).trans kR;refine⟨trivial,?_⟩;push_cast -dsimp;have TF:∃c5:aE,c5=⟨(aE.push c3 ⟨3,(c1.ins.length:Int),0⟩).sets,(aE.push c3 ⟨3,(c1.ins.length:Int),0⟩).ins.set c1.ins.length ⟨2,((c1.ins.length+1:Nat):Int),((aE.push c3 ⟨3,(c1.ins.length:Int),0⟩).ins.length:Int)⟩⟩:=⟨_,rfl⟩;obtain⟨c5,TF⟩:=TF;rw[<-TF]at qm;have aL0:c5.ins.length=c3.ins.length+1:=by rw[TF];simp[aE.push]
     have hE5:Ext c1 c5:=by rw[TF];exact((hE2.trans QG).trans (Ext.push c3 _)).set (Nat.le_refl _)
     have aQm:c5.ins[c1.ins.length]?=some ⟨2,((c1.ins.length+1:Nat):Int),((c5.ins.length:Nat):Int)⟩:=by
      rw[aL0,TF]
      show ((aE.push c3 ⟨3,(c1.ins.length:Int),0⟩).ins.set c1.ins.length _)[c1.ins.length]?=_
      rw[List.getElem?_set,if_pos rfl,if_pos (by omega),yr]
     have hj5:c5.ins[c3.ins.length]?=some ⟨3,(c1.ins.length:Int),0⟩:=by
      rw[TF]
      show ((aE.push c3 ⟨3,(c1.ins.length:Int),0⟩).ins.set c1.ins.length _)[c3.ins.length]?=_
      rw[List.getElem?_set,if_neg (by omega)];exact sq c3 _
     have hs5:eZ c3 c5 (c1.ins.length+1) c3.ins.length:=by
      rw[TF];exact eZ.set (eZ.push ((Ext.refl c3).same (Nat.le_refl _)) (Nat.le_refl _)) (.inl (by omega))
     rw[aHy]at mV;refine⟨⟨c5,qm,hE1.trans hE5,by rw[jE];omega,?_⟩,k1.trans (Ai.trans (k5.trans gL))⟩;simp only[ik,Int.toNat_natCast];refine⟨c1.ins.length,mj (A:=c.ins.length) (B:=c1.ins.length) (λa b=>hlen c1 a b) (λp q hp hq=>dp x p q ((hE5.same (Nat.le_refl _)).sub hp hq)) _ _ _ (Nat.le_refl _) (Nat.le_refl _) QR,?_⟩;rw[if_pos vw];exact⟨aQm,c3.ins.length,dp x _ _ hs5 mV,hj5,aL0⟩
    rintro ce w5 ⟨Y2,ht,k5⟩;push_cast -dsimp;exact⟨by rw[jE];omega,ht,k1.trans (Ai.trans k5)⟩
   rintro ce w4 ⟨EB,ht,k4⟩;push_cast -dsimp;exact⟨by rw[jE];omega,ht,k1.trans (kP.trans k4)⟩
  rintro ce w2 ⟨oX,ht,k2⟩;push_cast -dsimp;exact⟨by rw[jE];omega,ht,k1.trans k2⟩
 rw[if_neg qB]at jE;have hN0:∃N:Nat,hi=n+N:=⟨(hi-n).toNat,by omega⟩;obtain⟨N,rfl⟩:=hN0;have hNt:((n:Int)+(N:Int)-(n:Int)).toNat=N:=by omega
 rw[hNt]at jE;have aWh:=hlen;have d3':w1.cell? ⟨xb,3,none⟩=some (.int .i64 (n:Int)):=oU.cell rfl;push_cast -dsimp[d3'];refine Ma [6,7,8,76,77,78,79,80,81,82,83,84,85,86,87,88,89,90,91,92,93,94,95,96,97,98,99,100,101,102,103,104,105,106,107,108] (λz wx=>∃(ci:aE) (ks:List Nat) (ov:Value),z 6=ov/\Mk B mb nb back (λb=>X b\/ov.ownBlock=some b) wx ci/\Ext c1 ci/\ci.ins.length=c1.ins.length+N*(bO x+1)/\oN ci (ik (bC nm) ci back x) N c1.ins.length ks ci.ins.length/\Vc.Own w.heap.size 3 1 aX wx ov ks/\ks.length<=2000/\gm mb w wx) ?_ ?_
 ·refine aK [6,7,8,76,77,78,79,80,81,82,83,84,85,86,87,88,89,90,91,92,93,94,95,96,97,98,99,100,101,102,103,104,105,106,107,108] (λz wx=>∃(s:Nat) (ci:aE) (ks:List Nat) (ov:Value),z 7=.int .i64 ((n+s:Nat):Int)/\z 6=ov/\s<=N/\Mk B mb nb back (λb=>X b\/ov.ownBlock=some b) wx ci/\Ext c1 ci/\ci.ins.length=c1.ins.length+s*(bO x+1)/\oN ci (ik (bC nm) ci back x) s c1.ins.length ks ci.ins.length/\Vc.Own w.heap.size 3 1 aX wx ov ks/\ks.length=s/\gm mb w wx) (λz _=>N+n-(intOf (z 7)).toNat) ?_ ?_
  ·exact⟨0,c1,[],_,rfl,rfl,Nat.zero_le _,Md.iT (λb hb=>hb.elim id (λh=>by cases h)),Ext.refl c1,by simp,by simp[oN],Vc.Own.nil (enc:=aX) _ _ (λ_=>rfl) _,rfl,k1⟩
  intro z wx hI;obtain⟨s,ci,ks,ov,h7,h6,TV,Ds,Dr,Ki,hSx,Sn,QW,kx⟩:=hI;have Tl:=kx.out h;have zx:=kx.kept.size;obtain⟨lr,cx,hNx,hPx⟩:=Kd wx Tl;have dx4:wx.cell? ⟨xb,4,none⟩=some (.int .i64 ((n:Int)+(N:Int))):=lr.cell rfl;push_cast -dsimp[h7,h6,dx4];have pG:ci.sets.length<=ci.ins.length:=by have:=Dr.sum;omega
  have fq:=Sn.block;have aC2:=Ds.off Sn (by decide) (by decide) (by omega);have hXx:∀b,(X b\/ov.ownBlock=some b)->(Z b\/b=mb\/B<=b)/\b<wx.heap.size:=λb hb=>by
   rcases hb with hb|hb
   ·have:=hX b hb;exact⟨this.1,by omega⟩
   have:=fq b hb;exact⟨.inr (.inr (by omega)),this.2⟩
  refine⟨λBv=>?_,λeo=>?_⟩
  ·have hmul:(s+1)*(bO x+1)<=N*(bO x+1):=Nat.mul_le_mul_right _ (by omega);have TW:(s+1)*(bO x+1)=s*(bO x+1)+(bO x+1):=Nat.succ_mul _ _;refine aF (vL Ds (by omega) ⟨2,0,0⟩) ?_ ?_
   ·rintro _ w2 ⟨oX,rfl,He,k2⟩;have z2:=k2.kept.size;have wE:=sq ci ⟨2,0,0⟩;have hn2:=pR ci ⟨2,0,0⟩;push_cast -dsimp;have gL:=(He).st;obtain⟨Uy,ivP,usP,pD⟩:=gL;have iU:=pD.2.2.1;obtain⟨iaP,yK,rfl⟩:=iU.slice;have TJ:=iU.sl.get wE;obtain⟨gP,oP,eP,_,_⟩:=TJ;subst eP;have yF:oP=0:=Vc.Own.at0 iU;subst yF;have TO:=(List.getElem?_eq_some_iff.1 wE).1;have F7:=(He).num;have Sb:(w2).drew.cell? ⟨mb,1,none⟩=some (.slice (some ⟨gP,0,none⟩) ((aE.push ci ⟨2,0,0⟩)).ins.length yK):=pD.1.drew.cell rfl;refine eC (λw'=>aN w' mb 200 [Uy,.slice (some ⟨gP,0,none⟩) ((aE.push ci ⟨2,0,0⟩)).ins.length yK,.map (some nb),.bool back]) mixed (by kernel_rfl) (by simp) pD.1.drew ?_;push_cast -dsimp[Sb];refine⟨λbQ h=>by rw[h.cell (o:=1) rfl];exact rfl,?_⟩;have iV:=da (w2);refine aA (qA ((He).below iV)) ?_;rintro _ _ ⟨rfl,rfl⟩;refine⟨pD.1.drew,?_⟩;push_cast -dsimp;refine⟨⟨by omega,by omega⟩,?_⟩;have xx:Vc.Own B 164 3 bX (w2).drew (.slice (some ⟨gP,0,none⟩) ((aE.push ci ⟨2,0,0⟩)).ins.length yK) ((aE.push ci ⟨2,0,0⟩)).ins:=iU.aH ((Kept.refl (λ_=>False) (w2)).drew) (λ_ _ h=>h);refine gR (i:=ci.ins.length) (f:=1) (x:=(⟨2,0,0⟩:I3)) (y:=(⟨2,((aE.push ci ⟨2,0,0⟩).ins.length:Int),0⟩:I3)) xx rfl wE (by decide) rfl rfl ?_;intro wP Sk TM zP;have TS:=Mk.patch ((He).below iV) (pD.below iV) rfl Sk TM;obtain⟨qm,kR⟩:=TS;have gL:gm mb (w2) wP:=(gm.below iV (by have:=(He).lt;have:=(He).le;omega)).trans kR;refine⟨trivial,?_⟩;push_cast -dsimp
    have tJ:∃c2:aE,c2=⟨(aE.push ci ⟨2,0,0⟩).sets,(aE.push ci ⟨2,0,0⟩).ins.set ci.ins.length ⟨2,((aE.push ci ⟨2,0,0⟩).ins.length:Int),0⟩⟩:=⟨_,rfl⟩;obtain⟨c2,tJ⟩:=tJ;rw[<-tJ]at qm;have aHy:c2.ins.length=ci.ins.length+1:=by rw[tJ];simp[aE.push]
    have nh:c2.ins[ci.ins.length]?=some ⟨2,((ci.ins.length+1:Nat):Int),0⟩:=by
     rw[tJ]
     show ((aE.push ci ⟨2,0,0⟩).ins.set ci.ins.length _)[ci.ins.length]?=_
     rw[List.getElem?_set,if_pos rfl,if_pos (by omega),hn2]
    have hE2:Ext ci c2:=by rw[tJ];exact(Ext.push ci _).set (Nat.le_refl _)
    have Hx:c2.sets=ci.sets:=by rw[tJ];rfl
    have kP:gm mb wx wP:=k2.trans gL;have zP':=kP.kept.size;obtain⟨hBP,cxP,hNP,hPP⟩:=Kd wP (Tl.trans (kP.out Ds) (λ_ _ h=>h));have hXP:=λb hb=>(show (Z b\/b=mb\/B<=b)/\b<wP.heap.size from by have:=hXx b hb;exact⟨this.1,by omega⟩)
    have e2:wP.cell? ⟨xb,2,none⟩=some (.slice (some ⟨b1,o,none⟩) 1 pc):=hBP.cell rfl;push_cast -dsimp[e2,cxP];refine aF (hx aHD j8 nm jg hr B mb nb back _ Z _ c2 _ qm hXP kL hNP hPP (by rw[Hx];omega)) ?_ ?_
    ·rintro _ w4 ⟨⟨c3,Hf,QG,QX,mV⟩,k3⟩;have Ai:=kP.trans k3;have z4:=Ai.kept.size;have xw:=Sn.aH Ai.kept (λg hg hm=>aC2 g hg hm);push_cast -dsimp;refine cF ay rfl rfl (by omega) ?_;intro w5 cG;have z5:=cG.size;have ES:=Hf.below cG.below;have kF:=xw.new cG;have Y6:=ES.off kF (by decide) (by decide) (by omega);push_cast -dsimp;refine aP (base:=w.heap.size) [ci.ins.length] (enc:=aX) ay kF (by rfl) (λj u hu=>by rw[Nat.zero_add];exact cG.cell hu) (by simp[aX,Value.oneCell']) (by have:=Hf.num;simp only[List.length_cons,List.length_nil];omega) (by omega) ?_;intro v6 w6 tI K6 hn6;have aHs:Kept (λj=>ov.ownBlock=some j) w5 w6:=Kept.grown K6 (λ_ h=>h);have z6:=aHs.size;have hM6:=ES.aAV Y6 aHs hn6;have kx6:gm mb w w6:=(kx.trans (Ai.trans (gm.below cG.below (by have:=Hf.lt;have:=Hf.le;omega)))).aAV (aHs.weaken (λj _ h=>(fq j h).1)) (by omega);have aGB:=hE2.trans QG;have hS3:oN c3 (ik (bC nm) c3 back x) s c1.ins.length ks ci.ins.length:=GQ (A:=c1.ins.length) (λa b=>hlen ci a b) (λp q hp hq=>dp x p q ((aGB.same (Nat.le_refl _)).sub hp hq)) (aGB.same (Nat.le_refl _)) _ _ _ (Nat.le_refl _) hSx;rw[aHy]at mV QX;have hS6:oN c3 (ik (bC nm) c3 back x) (s+1) c1.ins.length (ks++[ci.ins.length]) c3.ins.length:=GR (QG.ins _ _ nh) mV _ _ _ hS3;push_cast -dsimp
     exact⟨⟨by omega,by omega⟩,⟨s+1,c3,_,_,by first|(push_cast;done)|(push_cast;congr 1;done)|(push_cast;congr 1;omega),rfl,by omega,hM6,Dr.trans aGB,by rw[QX,Ki,TW];omega,hS6,tI,by simp[QW],kx6⟩,by rw[h7];simp only[intOf];omega⟩
    rintro ce w4 ⟨EB,ht,k4⟩;push_cast -dsimp;exact⟨by rw[jE];omega,ht,kx.trans (kP.trans k4)⟩
   rintro ce w2 ⟨oX,ht,k2⟩;push_cast -dsimp;exact⟨by rw[jE];omega,ht,kx.trans k2⟩
  have hsN:s=N:=by omega
  subst hsN
  have:=Ds.num;have Ea:s<=s*(bO x+1):=Nat.le_mul_of_pos_right _ (by omega);exact⟨ci,ks,_,rfl,Ds,Dr,Ki,hSx,Sn,by omega,kx⟩
 intro z w7 hJ;obtain⟨cs,ks,ov,h6,hM7,hE7,hl7,QL,vf,QW,k7⟩:=hJ;have z7:=k7.kept.size;have aHj:=Ap (λa b=>hlen cs a b) _ _ _ QL;have e:∃e,e=cs.ins.length:=⟨_,rfl⟩;obtain⟨e,he⟩:=e;rw[<-he]at QL aHj;obtain⟨oa,oc,rfl⟩:=vf.slice;push_cast -dsimp[h6];refine aK [10,111,112,113,114,115,116,117,118,119,120,121,122,123,124,125] (λz wz=>∃(t:Nat) (ct:aE),z 111=.int .i64 t/\t<=ks.length/\Mk B mb nb back (λb=>X b\/(Value.slice oa ks.length oc).ownBlock=some b) wz ct/\lM cs ct (ks.take t) (λx=>⟨x.op,x.a,(e:Int)⟩)/\Vc.Own w.heap.size 3 1 aX wz (.slice oa ks.length oc) ks/\gm mb w wz) (λz _=>ks.length-(intOf (z 111)).toNat) ?_ ?_
 ·exact⟨0,cs,rfl,Nat.zero_le _,hM7,lM.nil cs _,vf,k7⟩
 intro z wz hI;obtain⟨t,ct,aKs,ht,KU,xy,hOz,kz⟩:=hI;have zz:=kz.kept.size;have Y7:=KU.off hOz (by decide) (by decide) (by omega);have hlz:=xy.len;push_cast -dsimp[aKs];refine⟨λBv=>?_,λeo=>?_⟩
 ·obtain⟨k,hk,vB,_,hkt⟩:=ag (l:=ks) (i:=t) (by omega);obtain⟨bj,oj,hej,_,rT⟩:=hOz.sl.get hk;cases hej;have cj:wz.cell? ⟨bj,oj+t,none⟩=some (.int .i64 (k:Int)):=by simpa[aX] using rT 0 _ rfl
  have aQp:k<ct.ins.length:=by have:=aHj.2 k vB;omega
  obtain⟨xk,Vk,_⟩:=ag (l:=ct.ins) (i:=k) aQp;push_cast -dsimp[cj];refine⟨⟨by omega,by omega⟩,?_⟩;have gL:=(KU).st;obtain⟨Uy,ivP,usP,pD⟩:=gL;have iU:=pD.2.2.1;obtain⟨iaP,yK,rfl⟩:=iU.slice;have TJ:=iU.sl.get Vk;obtain⟨gP,oP,eP,_,_⟩:=TJ;subst eP;have yF:oP=0:=Vc.Own.at0 iU;subst yF;have TO:=(List.getElem?_eq_some_iff.1 Vk).1;have F7:=(KU).num;have Sb:(wz).drew.cell? ⟨mb,1,none⟩=some (.slice (some ⟨gP,0,none⟩) (ct).ins.length yK):=pD.1.drew.cell rfl;refine eC (λw'=>aN w' mb 200 [Uy,.slice (some ⟨gP,0,none⟩) (ct).ins.length yK,.map (some nb),.bool back]) mixed (by kernel_rfl) (by simp) pD.1.drew ?_;push_cast -dsimp[Sb];refine⟨λbQ h=>by rw[h.cell (o:=1) rfl];exact rfl,?_⟩;have iV:=da (wz);refine aA (qA ((KU).below iV)) ?_;rintro _ _ ⟨rfl,rfl⟩;refine⟨pD.1.drew,?_⟩;push_cast -dsimp;refine⟨⟨by omega,by omega⟩,?_⟩;have xx:Vc.Own B 164 3 bX (wz).drew (.slice (some ⟨gP,0,none⟩) (ct).ins.length yK) (ct).ins:=iU.aH ((Kept.refl (λ_=>False) (wz)).drew) (λ_ _ h=>h);refine gR (i:=k) (f:=2) (x:=xk) (y:=(⟨xk.op,xk.a,(ct.ins.length:Int)⟩:I3)) xx rfl Vk (by decide) rfl rfl ?_;intro wP Sk TM zP;have TS:=Mk.patch ((KU).below iV) (pD.below iV) rfl Sk TM;obtain⟨qm,kR⟩:=TS;have gL:gm mb (wz) wP:=(gm.below iV (by have:=(KU).lt;have:=(KU).le;omega)).trans kR;refine⟨trivial,?_⟩;push_cast -dsimp;have hTn:=lM.step (g:=λx=>⟨x.op,x.a,(e:Int)⟩) (λx=>rfl) xy Vk;rw[<-hkt]at hTn;have hec:(e:Int)=(ct.ins.length:Int):=by rw[he,hlz]
  rw[hec]at hTn xy;exact⟨⟨by omega,by omega⟩,⟨t+1,_,rfl,by omega,qm,by rw[hec];exact hTn,hOz.aH gL.kept (λg hg hm=>Y7 g hg hm),kz.trans gL⟩,by rw[aKs];simp only[intOf];omega⟩
 have Mj:t=ks.length:=by omega
 rw[Mj,List.take_length]at xy;have aCM:∀k∈ks,c1.ins.length<=k:=λk hk=>(aHj.2 k hk).1;have hE:=hE1.trans hE7;have hIn:eZ c1 ct c.ins.length c1.ins.length:=⟨λk h1 h2=>by
  rw[xy.ins k,if_neg (λhm=>by have:=aCM k hm;omega)];exact(hE7.same (Nat.le_refl _)).1 k h1 h2,λi s hs=>by rw[xy.sets];exact hE7.sets i s hs⟩
 have hH:tp ct (ik (bC nm) ct back x) e N c1.ins.length:=RP (λa b=>hlen cs a b) xy (λa b hab hj=>dp x a b (xy.same hj) hab) _ _ _ (λj hj=>hj) (λj hj=>.inl hj) QL;refine⟨⟨ct,KU.iT (λb hb=>.inl hb),⟨λk y hy=>?_,λk s hs=>?_,?_⟩,by rw[hlz,jE,hl7];omega,?_⟩,kz⟩
 ·have hk:=(List.getElem?_eq_some_iff.1 hy).1
  have:=hE1.sum;rw[xy.ins k,if_neg (λhm=>by have:=aCM k hm;omega)];exact hE.ins k y hy
 ·rw[xy.sets];exact hE.sets k s hs
 ·have:=hE.sum;rw[xy.sets,hlz];exact this
 simp only[ik,Int.toNat_natCast];refine⟨c1.ins.length,mj (A:=c.ins.length) (B:=c1.ins.length) (λa b=>hlen c1 a b) (λp q hp hq=>dp x p q (hIn.sub hp hq)) _ _ _ (Nat.le_refl _) (Nat.le_refl _) QR,?_⟩;rw[if_neg qB,hNt,hlz,<-he];exact hH
theorem aBU (x:aG)(lo hi:Int)(hx:ot x):ot (.many x lo hi):=by
 intro bI j8 nm jg hr B mb nb back X Z w c v h hX kL hN hV r5;simp only[iY]at jg;have JL:=hV;simp only[au]at hV;obtain⟨xb,psv,u,rfl,xa,hB,_,_⟩:=hV;have hpm:=uw (x:=x) (lo:=lo) (hi:=hi);have d0:w.cell? ⟨xb,0,none⟩=some (.int .i64 6):=hB.cell rfl;refine bR Tryz.func111 rfl (by kernel_rfl) [] rfl ?_;push_cast -dsimp(maxSteps:=9^7) [Tryz.ntmps111];push_cast -dsimp[d0];refine aF (Wx x lo hi hx bI (by omega) nm jg hr B mb nb back X Z w c _ h hX kL hN JL r5) ?_ ?_
 ·rintro _ w1 h1;push_cast -dsimp;exact h1
 rintro ce w1 h1;push_cast -dsimp;exact h1
theorem aBS (l:List aG)(cf:l≠[])(cg:∀y∈l,ot y):ot (.alt l):=by
 intro bI j8 nm jg hr B mb nb back X Z w c v h hX kL hN hV r5;simp only[bD]at bI;simp only[iY]at jg;have AV:=ue.1 jg;simp only[au]at hV;obtain⟨xb,psv,vs,rfl,xa,hB,hs,hVl⟩:=hV;have wC:=yZ (l:=l);have aQR:=wC.2.1;obtain⟨pa,pc,rfl,aHH⟩:=hs.shape;have d0:w.cell? ⟨xb,0,none⟩=some (.int .i64 5):=hB.cell rfl;have d2:w.cell? ⟨xb,2,none⟩=some (.slice pa vs.length pc):=hB.cell rfl;refine bR Tryz.func111 rfl (by kernel_rfl) [] rfl ?_;push_cast -dsimp(maxSteps:=9^7) [Tryz.ntmps111];push_cast -dsimp[d0,d2];refine aF (aGb l cf cg bI (λy hy=>by have:=wC.2.2 y hy;omega) (by omega) nm AV hr B mb nb back X Z w c _ vs h hX kL hN hs hVl r5) ?_ ?_
 ·rintro _ w1 h1;push_cast -dsimp;simp only[bO,ik];exact h1
 rintro ce w1 h1;push_cast -dsimp;simp only[bO];exact h1
mutual
theorem Oc:∀x,dD x->ot x
 | .one k,_=>aGe k
 | .any,_=>aGc
 | .gh,_=>aBT
 | .cat l,h=>aGd l (Ia l (by simpa only[dD] using h))
 | .alt l,h=>by
  simp only[dD]at h;exact aBS l h.1 (Ia l h.2)
 | .many x lo hi,h=>aBU x lo hi (Oc x (by simpa only[dD] using h))
theorem Ia:∀(l:List aG),gV l->∀(x:aG),x∈l->ot x
 | [],_,x,h=>by cases h
 | y::l,hn,x,h=>by
  simp only[gV]at hn;have hy:=Oc y hn.1;rcases List.mem_cons.1 h with h|h
  ·rw[h];exact hy
  exact Ia l hn.2 x h
end
theorem Ww (rb eb:Nat)(e:Int)(f0:List Value)(e0:Value)(hf:f0.length=2)(w:World)(hr:aN w rb 127 f0)(he:aN w eb 34 [e0])(cf:rb≠eb) :
  CallsD Tryz.prog 110 #[.pointer (some ⟨rb,0,none⟩),.pointer (some ⟨eb,0,none⟩)] (.panicking [{ v:=.iface 196 (.agg #[.int .i64 e]),recovered:=false }]) w λex u' w' =>
   ex=.returned (.tuple #[])/\u'=.panicking [{ v:=.iface 196 (.agg #[.int .i64 e]),recovered:=true }]/\aN w' rb 127 [.slice none 0 0,.slice none 0 0]/\aN w' eb 34 [.iface 74 (.int .i64 e)]/\Kept (λi=>i=rb\/i=eb) w w':=by
 refine callsD_of_wpS Tryz.func110 rfl λc₀ cs hu=>?_;apply wpS_seq;apply wpS_region;simp[wpOpsS,go_sem,recoverD,hu,Tryz.ntmps110,Exit.thenS];refine tE (t:=[.pointer (some ⟨rb,0,none⟩),.pointer (some ⟨eb,0,none⟩),.iface 196 (.agg #[.int .i64 e]),undef,undef,.iface 196 (.agg #[.int .i64 e]),undef,undef,undef,undef,undef,undef,undef,undef,undef,undef,undef,undef,undef,undef]) ?_;push_cast -dsimp;refine ya Tryz.underlying196 ?_;push_cast -dsimp;refine ah (z:=[.int .i64 0]) (by kernel_rfl) ?_;intro w1 aU;have C1:=aU.aL;have R1:=hr.below aU.below hr.lt;have E1:=he.below aU.below he.lt;have z1:=aU.size;push_cast -dsimp;refine aI (xt:=196) (n:=1) (by kernel_rfl) C1 rfl (by decide) (by simp[Value.oneCell']) ?_;intro w2 bP;have C2:aN w2 w.heap.size 196 [.int .i64 e]:=bP.aL;have Hw:=hr.lt;have tf:=he.lt;have R2:=R1.kept bP.kept (by omega);have E2:=E1.kept bP.kept (by omega);push_cast -dsimp;refine bu (λw'=>aN w' w.heap.size 196 [.int .i64 e]) mixed (by kernel_rfl) C2.drew ?_;have d2:w2.drew.cell? ⟨w.heap.size,0,none⟩=some (.int .i64 e):=C2.drew.cell rfl;push_cast -dsimp[d2];refine⟨λbQ h=>by rw[aN.cell h (o:=0) rfl];exact rfl,?_⟩;refine aI (xt:=127) (n:=2) (by kernel_rfl) R2.drew rfl (by rw[hf];exact Nat.le_refl _) (by simp[Value.oneCell']) ?_;intro w3 dA;have R3:aN w3 rb 127 [.slice none 0 0,.slice none 0 0]:=by
  have:=dA.aL;rw[List.take_zero,List.nil_append,Nat.zero_add,List.drop_of_length_le (by rw[hf];exact Nat.le_refl _),List.append_nil]at this;exact this
 have C3:aN w3 w.heap.size 196 [.int .i64 e]:=C2.drew.kept dA.kept (by omega);have E3:=E2.drew.kept dA.kept (by omega);refine⟨C3,?_⟩;push_cast -dsimp;refine aC E3 (by simp) rfl ?_;intro w4 aj;have E4:aN w4 eb 34 [.iface 74 (.int .i64 e)]:=aj.aL;have R4:=R3.kept aj.kept (by omega);have C4:aN w4 w.heap.size 196 [.int .i64 e]:=C3.kept aj.kept (by omega);have k4:Kept (λi=>i=rb\/i=eb) w w4:=(((Kept.new (X:=λi=>i=rb\/i=eb) aU).trans bP.kept (λi h1 h2=>by omega)).drew.trans dA.kept (λi _ h=>.inl h)).trans aj.kept (λi _ h=>.inr h);refine⟨C4,?_⟩;push_cast -dsimp;exact⟨rfl,_,rfl,.tuple #[],Qu (by rfl) _ _,rfl,rfl,R4,E4,k4⟩
theorem aDg (rb eb:Nat)(w:World) :
  CallsD Tryz.prog 110 #[.pointer (some ⟨rb,0,none⟩),.pointer (some ⟨eb,0,none⟩)] .returning w λe u' w'=>e=.returned (.tuple #[])/\u'=.returning/\w'=w:=by
 refine callsD_of_wpS Tryz.func110 rfl λc₀ cs hu=>?_;apply wpS_seq;apply wpS_region;simp[wpOpsS,go_sem,recoverD,hu,Tryz.ntmps110,Exit.thenS];refine tE (t:=[.pointer (some ⟨rb,0,none⟩),.pointer (some ⟨eb,0,none⟩),.nilIface,undef,undef,.nilIface,undef,undef,undef,undef,undef,undef,undef,undef,undef,undef,undef,undef,undef,undef]) ?_;push_cast -dsimp;refine⟨rfl,.returning,?_,.tuple #[],Qu (by rfl) _ _,rfl,rfl,rfl⟩;rw[<-hu]
theorem fu.top {X:Nat->Prop}{w:World}{b:Nat}{nm:bK}(h:fu X w b nm):fu (λb=>X b\/w.heap.size<=b) w b nm:=by
 obtain⟨iD,h2,h3⟩:=h;exact⟨iD,h2,h3.imp λa b h=>⟨h.1,Sl.top (by decide) h.2.1,h.2.2⟩⟩
def Vt (X:Nat->Prop)(nm:bK)(back:Bool)(x:aG)(w:World)(r:Value)(w':World):Prop :=
 (∃c cv,r=.tuple #[cv,.nilIface]/\cz (λb=>X b/\b<w.heap.size) w' cv c/\iE (bC nm) back x c) \/
 (2000<bO x+1/\r=.tuple #[.agg #[.slice none 0 0,.slice none 0 0],.iface 74 (.int .i64 4)])
def aFZ (X:Nat->Prop)(nm:bK)(back:Bool)(x:aG)(w:World)(e:Ending)(w':World):Prop:=∃v,e=.returned v/\Vt X nm back x w v w'/\Below w.heap.size w w'
theorem Tm {X:Nat->Prop}{nm:bK}{back:Bool}{p:aG}{w W:World}{fv:List Value}{t:Fr}(h6:t.getD 6 undef=.pointer (some ⟨w.heap.size,0,none⟩))(h7:t.getD 7 undef=.pointer (some ⟨w.heap.size+1,0,none⟩)){x:Value}
  (B1:aN W w.heap.size 127 fv) (B2:aN W (w.heap.size+1) 34 [x]) (hl:fv.length=2) (hR:Vt X nm back p w (.tuple #[.agg fv.toArray,x]) W) (hb:Below w.heap.size w W) :
  bodyPostD Tryz.prog Tryz.f72 (aFZ X nm back p w) .ret ⟨t.toArray,[{ target:=.fn (.func 110) #[.pointer (some ⟨w.heap.size,0,none⟩),.pointer (some ⟨w.heap.size+1,0,none⟩)],args:=#[] }]⟩ W:=by
 show Leaves _ _ _ _ _ _ _
 refine leaves_cons (f:=110) (args:=#[.pointer (some ⟨w.heap.size,0,none⟩),.pointer (some ⟨w.heap.size+1,0,none⟩)]) (by simp) ?_ ?_
 ·simp only[invoke,Array.empty_append];exact cC Tryz.func110 (by kernel_rfl) (by kernel_rfl)
 refine(aDg w.heap.size (w.heap.size+1) W).mono ?_;rintro e u' w' ⟨rfl,rfl,rfl⟩;obtain⟨vs,hv,hk⟩:=dI (P:=Tryz.prog) (w:=w') Tryz.f72 [.cell 6 127,.cell 7 34] (by rfl) t (λvs=>vs=[.agg fv.toArray,x]) (by
  have d1:aB w' ⟨w.heap.size,0,none⟩ 0 2=some fv:=by rw[<-hl];exact B1.aB
  have d2:w'.cell? ⟨w.heap.size+1,0,none⟩=some x:=B2.cell rfl;push_cast -dsimp[h6,h7,d1,d2])
 refine⟨_,hv,_,rfl,?_,hb⟩;rw[hk];exact hR
theorem wR {X:Nat->Prop}{nm:bK}{back:Bool}{p:aG}{w W:World}{fv:List Value}{ce:List PanicEntry}{t:Fr}(h6:t.getD 6 undef=.pointer (some ⟨w.heap.size,0,none⟩))(h7:t.getD 7 undef=.pointer (some ⟨w.heap.size+1,0,none⟩)){x:Value}
  (B1:aN W w.heap.size 127 fv) (B2:aN W (w.heap.size+1) 34 [x]) (hl:fv.length=2) (hT:NA 4 ce) (hp:2000<bO p+1) (hb:Below w.heap.size w W) :
  bodyPostD Tryz.prog Tryz.f72 (aFZ X nm back p w) (.panic ce) ⟨t.toArray,[{ target:=.fn (.func 110) #[.pointer (some ⟨w.heap.size,0,none⟩),.pointer (some ⟨w.heap.size+1,0,none⟩)],args:=#[] }]⟩ W:=by
 unfold NA at hT;subst hT
 show Leaves _ _ _ _ _ _ _
 refine leaves_cons (f:=110) (args:=#[.pointer (some ⟨w.heap.size,0,none⟩),.pointer (some ⟨w.heap.size+1,0,none⟩)]) (by simp) ?_ ?_
 ·simp only[invoke,Array.empty_append];exact cC Tryz.func110 (by kernel_rfl) (by kernel_rfl)
 refine(Ww w.heap.size (w.heap.size+1) 4 fv x hl W B1 B2 (by omega)).mono ?_;rintro e' u' w' ⟨rfl,rfl,R1,R2,hk⟩;have Dw:=hb.trans (hk.below (B:=w.heap.size) hb.size (λi h=>by omega));obtain⟨vs,hv,hk⟩:=dI (P:=Tryz.prog) (w:=w') Tryz.f72 [.cell 6 127,.cell 7 34] (by rfl) t (λvs=>vs=[.agg #[.slice none 0 0,.slice none 0 0],.iface 74 (.int .i64 4)]) (by
  have d1:aB w' ⟨w.heap.size,0,none⟩ 0 2=some [.slice none 0 0,.slice none 0 0]:=R1.aB;have d2:w'.cell? ⟨w.heap.size+1,0,none⟩=some (.iface 74 (.int .i64 4)):=R2.cell rfl;push_cast -dsimp[h6,h7,d1,d2])
 show Leaves _ _ _ _ [] (settle _) _
 refine⟨_,hv,_,rfl,?_,Dw⟩;rw[hk];exact .inr ⟨hp,rfl⟩
theorem FO (x:aG)(cf:dD x)(bI:bD x)(j8:wd x<=100000)(nm:bK)(jg:iY nm x=none)(hr:iG nm)(X:Nat->Prop)(v:Value)(nb:Nat)(back:Bool)(w:World)(hV:au X w v x)(hN:fu X w nb nm) :
  aw Tryz.prog 72 [v,.map (some nb),.bool back] w λr w'=>Vt X nm back x w r w'/\Below w.heap.size w w':=by
 unfold aw;refine⟨cC Tryz.func72 (by kernel_rfl) (by kernel_rfl),?_⟩;refine calls_of_wp_defers Tryz.func72 rfl ?_;have e:(([v,.map (some nb),.bool back]:List Value).toArray++Array.replicate (Tryz.f72.ntmps-([v,.map (some nb),.bool back]:List Value).toArray.size) undef)=(yj [v,.map (some nb),.bool back] Tryz.f72.ntmps).toArray:=by simp[yj]
 rw[e];have aQT:=hV.ptr;obtain⟨xb,rfl,hxl,hxX⟩:=aQT;have hnl:=hN.lt;simp -dsimp (maxSteps:=9^7) only[push_cast,yj,Tryz.ntmps72,List.length_cons,List.length_nil,Nat.reduceAdd,Nat.reduceSub,Nat.reduceBEq,List.replicate_succ,List.replicate_zero]
 show Code.wp _ _ (bodyPostD Tryz.prog Tryz.f72 (aFZ X nm back x w)) _ _
 refine aAC (by rfl) ?_;push_cast -dsimp;refine ah (z:=[.slice none 0 0,.slice none 0 0]) (by kernel_rfl) ?_;intro w1 aU;have R1:=aU.aL;have z1:=aU.size;have b1:=aU.below;push_cast -dsimp;refine ah (z:=[.nilIface]) (by kernel_rfl) ?_;intro w2 bP;have E2:=bP.aL;have R2:=R1.below bP.below (by omega);have z2:=bP.size;have b2:=b1.trans (bP.below.mono (by omega));rw[z1]at E2;push_cast -dsimp[z1];refine wp_seq (Jr (cap:=[.tmp 6,.tmp 7]) (by simp) ?_);simp -dsimp only[push_cast];refine Zt (by rfl) ?_;push_cast -dsimp;refine aS ?_;intro w3 dA;have dA:mN w2 w3 200 [.slice none 0 0,.slice none 0 0,.map (some nb),.bool back]:=dA;have z3:=dA.size;have hrb:∃B:Nat,B=w2.heap.size+1:=⟨_,rfl⟩;obtain⟨B,hB⟩:=hrb;have b3:Below w.heap.size w w3:=b2.trans (dA.below.mono (by omega));have R3:=R2.below dA.below R2.lt;have E3:=E2.below dA.below E2.lt;have hZ:∃Z:Nat->Prop,Z=λb=>(X b/\b<w.heap.size)\/b=w.heap.size\/b=w.heap.size+1:=⟨_,rfl⟩;obtain⟨Z,hZ⟩:=hZ;have Hf:Mk B w2.heap.size nb back Z w3 ⟨[],[]⟩ :=
  ⟨⟨_,_,[],dA.aL,Vc.Own.nil (enc:=kJ) _ _ (λ_=>rfl) _,Vc.Own.nil (enc:=bX) _ _ (λ_=>rfl) _,rfl,(by intro h;cases h),(by intro h;cases h),(by intro g h;cases h),(by intro i u s h1 h2;simp at h1)⟩,(by omega),(by omega),(by intro s hs;cases hs),(by simp),(by simp)⟩
 have jF:∀b,(Z b\/b=w2.heap.size\/B<=b)->X b\/w.heap.size<=b:=λb hb=>by
  rw[hZ]at hb;rcases hb with (hb|hb|hb)|hb|hb
  ·exact .inl hb.1
  ·exact .inr (by omega)
  ·exact .inr (by omega)
  ·exact .inr (by omega)
  exact .inr (by omega)
 have KW:au (λb=>Z b\/b=w2.heap.size\/B<=b) w3 (.pointer (some ⟨xb,0,none⟩)) x:=au.mono (Kept.refl (λ_=>False) w3) (λ_ h=>h.elim) jF (hV.top.below b3);have hN3:fu (λb=>Z b\/b=w2.heap.size\/B<=b) w3 nb nm:=fu.kept (hN.top.below b3) (Kept.refl (λ_=>False) w3) (λ_ h=>h.elim) (λh=>h) jF;push_cast -dsimp;refine aF (Oc x cf bI j8 nm jg hr B w2.heap.size nb back Z Z w3 ⟨[],[]⟩ _ Hf (λb hb=>⟨.inl hb,by rw[hZ]at hb;rcases hb with hb|hb|hb<;>omega⟩) (by omega) hN3 KW (Nat.le_refl _)) ?_ ?_
 ·rintro _ w4 ⟨⟨c4,hM4,QH,EB,hs4⟩,k4⟩;have k4o:=k4.out Hf;have z4:=k4o.size;have R4:=R3.kept k4o (by omega);have E4:=E3.kept k4o (by omega);have b4:=b3.trans (k4o.below b3.size (λi h=>by omega));have EB:c4.ins.length=bO x:=by simpa using EB
  have aTx:c4.sets.length<=c4.ins.length:=by have:=QH.sum;simpa using this
  push_cast -dsimp;refine aF (vL hM4 (by omega) ⟨5,0,0⟩) ?_ ?_
  ·rintro _ w5 ⟨Y2,rfl,ES,k5⟩;have k5o:=k5.out hM4;have z5:=k5o.size;have R5:=R4.kept k5o (by omega);have E5:=E4.kept k5o (by omega);have b5:=b4.trans (k5o.below b4.size (λi h=>by omega));have aQ6:=ES.st;obtain⟨sv,iv,us,hMB,yl,ff,uV,gE,iC,mV,rB⟩:=aQ6;have aQJ:=yl.block;have aQK:=ff.block;have TF:iE (bC nm) back x (aE.push c4 ⟨5,0,0⟩):=by
    have hlen:=pR c4 ⟨5,0,0⟩;have hy:=sq c4 ⟨5,0,0⟩;rw[EB]at hy;refine⟨?_,by omega,hy,ES.num,?_,ES.few⟩
    ·have h1:=hs4;rw[show ((⟨[],[]⟩:aE).ins.length)=0 from rfl,EB]at h1
     exact dp x _ _ ((Ext.push c4 _).same (by omega)) h1
    show c4.sets.length<=_
    omega
   obtain⟨sa,sc,rfl⟩:=yl.slice;obtain⟨ia,ic,rfl⟩:=ff.slice;have d5:aB w5 ⟨w2.heap.size,0,none⟩ 0 2=some [.slice sa us.length sc,.slice ia (aE.push c4 ⟨5,0,0⟩).ins.length ic]:=by
    refine ao [.slice sa us.length sc,.slice ia (aE.push c4 ⟨5,0,0⟩).ins.length ic] 0 (λj u hu=>?_);have h0:w5.cell? ⟨w2.heap.size,0,none⟩=some (.slice sa us.length sc):=hMB.cell rfl;have h1:w5.cell? ⟨w2.heap.size,1,none⟩=some (.slice ia (aE.push c4 ⟨5,0,0⟩).ins.length ic):=hMB.cell rfl;match j,hu with
    | 0,hu=>cases hu;simpa using h0
    | 1,hu=>cases hu;simpa using h1
    | _+2,hu=>simp at hu
   push_cast -dsimp[d5];refine aI (xt:=127) (n:=2) (by kernel_rfl) R5 rfl (by decide) (by simp[Value.oneCell']) ?_;intro w6 bW;have R6:aN w6 w.heap.size 127 [.slice sa us.length sc,.slice ia (aE.push c4 ⟨5,0,0⟩).ins.length ic]:=bW.aL;have E6:=E5.kept bW.kept (by omega);have z6:=bW.size;push_cast -dsimp;refine aC E6 (by simp) rfl ?_;intro w7 fQ;have E7:aN w7 (w.heap.size+1) 34 [.nilIface]:=fQ.aL;have R7:=R6.kept fQ.kept (by omega);have k57:Kept (λi=>i=w.heap.size\/i=w.heap.size+1) w5 w7:=(bW.kept.weaken (λi _ h=>.inl h)).trans fQ.kept (λi _ h=>.inr h);have b7:=b5.trans (k57.below b5.size (λi h=>by omega));have aGG:=yl.aH k57 (λg hg h=>by have:=aQJ g hg;omega);have aOW:=ff.aH k57 (λg hg h=>by have:=aQK g hg;omega);have hCV:cz (λb=>X b/\b<w.heap.size) w7 (.agg #[.slice sa us.length sc,.slice ia (aE.push c4 ⟨5,0,0⟩).ins.length ic]) (aE.push c4 ⟨5,0,0⟩) :=
    ⟨_,_,rfl,eH.sj uV (aGG.sl.weaken (λb h=>by omega)) (λi u s h1 h2=>((rB i u s h1 h2).kept k57 (λj hj=>by rw[hZ];exact .inl (.inr hj))).weaken (λb hb=>by rw[hZ];exact .inl (.inl hb))),aOW.sl.weaken (λb h=>by omega)⟩
   push_cast -dsimp;exact Tm (t:=_) (by rfl) (by rfl) R7 E7 rfl (.inl ⟨_,_,rfl,hCV,TF⟩) b7
  rintro ce w5 ⟨Y2,ht,k5⟩;have k5o:=k5.out hM4;push_cast -dsimp;exact wR (t:=_) (by rfl) (by rfl) (R4.kept k5o (by omega)) (E4.kept k5o (by omega)) rfl ht (by omega) (b4.trans (k5o.below b4.size (λi h=>by omega)))
 rintro ce w4 ⟨EB,ht,k4⟩;have k4o:=k4.out Hf;push_cast -dsimp;exact wR (t:=_) (by rfl) (by rfl) (R3.kept k4o (by omega)) (E3.kept k4o (by omega)) rfl ht (by simpa using Nat.lt_succ_of_lt EB) (b3.trans (k4o.below b3.size (λi h=>by omega)))
theorem NT {f:dX}{nm:bK}(h:ql f=none)(hn:gv [] f.cT=.ok nm):∀r∈f.rules,iY nm r.before=none/\iY nm r.after=none:=by
 unfold ql at h;rw[hn]at h;dsimp only at h;have h1:gY nm f.rules=none:=by
  cases hr:gY nm f.rules with
  | none=>rfl
  | some e=>rw[hr]at h;cases h
 exact zj.1 h1
theorem eL.aFL {X Y:Nat->Prop}{w w':World}{cs:List Value}{r:bo}(h:eL X w cs r)(hk:Kept Y w w')(hY:∀i,Y i->X i):eL X w' cs r:=h.mono (λb hx aq=>hk.block b aq λhh=>hx (hY b hh)) (λ_ h=>h)
theorem kI.top {X:Nat->Prop}{w:World}{v:Value}{f:dX}(h:kI X w v f):kI (λb=>X b\/w.heap.size<=b) w v f:=by
 obtain⟨cv,rv,cs,rs,rfl,il,iW,hC,hR⟩:=h;exact⟨_,_,cs,rs,rfl,Sl.top (by decide) il,Sl.top (by decide) iW,hC.imp λa c h=>h.top,hR.imp λa c h=>h.top⟩
def tT (X:Nat->Prop)(B:Nat)(f:dX)(r:Value)(w':World):Prop:=match ql f with
 | some e=>∃v,r=.tuple #[.agg #[.slice none 0 0,.bool false],v]/\q9 B (some e) v w'
 | none=>(∃nm p pv,gv [] f.cT=.ok nm/\r=.tuple #[pv,.nilIface]/\iz X w' pv p/\BC (bC nm) f p) \/
  (∃q∈f.rules,(2000<bO q.before+1\/2000<bO q.after+1)/\∃v,r=.tuple #[.agg #[.slice none 0 0,.bool false],v]/\q9 B (some (4,q.pos)) v w')
theorem Vt.cases {X:Nat->Prop}{nm:bK}{back:Bool}{x:aG}{w w':World}{r:Value}(h:Vt X nm back x w r w'):∃sv iv ev,r=.tuple #[.agg #[sv,iv],ev]/\sv.oneCell'=true/\iv.oneCell'=true /\
  ((ev=.nilIface/\∃c,cz (λb=>X b/\b<w.heap.size) w' (.agg #[sv,iv]) c/\iE (bC nm) back x c)\/(ev=.iface 74 (.int .i64 4)/\2000<bO x+1)):=by
 rcases h with ⟨c,cv,rfl,hV,hC⟩|⟨hl,rfl⟩
 ·have JL:=hV;obtain⟨sv,iv,rfl,hs,hi⟩:=hV;obtain⟨_,_,rfl,_⟩:=hs.shape;obtain⟨_,_,rfl,_⟩:=hi.shape;exact⟨_,_,_,rfl,rfl,rfl,.inl ⟨rfl,c,JL,hC⟩⟩
 exact⟨_,_,_,rfl,rfl,rfl,.inr ⟨rfl,hl⟩⟩
theorem Rz (f:dX)(bI:Ay f)(j8:aBy f)(cf:∀r∈f.rules,dD r.before/\dD r.after)(Kf:f.cT.length<=1000000)(Vh:f.rules.length<=1000)(X:Nat->Prop)(v:Value)(w:World)(hv:kI X w v f) :
  aw Tryz.prog 46 [v] w λr w'=>tT (λb=>X b/\b<w.heap.size) w.heap.size f r w'/\Below w.heap.size w w':=by
 have Kr:=hv;obtain⟨cv,rv,cs,rs,rfl,il,iW,hC,hR⟩:=hv;obtain⟨ca,cc,rfl,hcc⟩:=il.shape;obtain⟨ra,rc,rfl,hrc⟩:=iW.shape;have Hw:=dT.len hR;refine iI Tryz.func46 rfl (by kernel_rfl) [.cell 2 71,.tmp 3] rfl ?_;push_cast -dsimp(maxSteps:=9^7) [Tryz.ntmps46];refine aS ?_;intro w1 aU;have aU:mN w w1 26 [.slice ca cs.length cc,.slice ra rs.length rc,.bool f.els]:=aU;have z1:=aU.size;push_cast -dsimp;refine ah (z:=[.slice none 0 0,.bool false]) (by kernel_rfl) ?_;intro w2 bP;have z2:=bP.size;have fP:=aU.below.trans (bP.below.mono (by omega));have F2:=aU.aL.below bP.below (by omega);have d0:aB w2 ⟨w.heap.size,0,none⟩ 0 3=some [.slice ca cs.length cc,.slice ra rs.length rc,.bool f.els]:=F2.aB;push_cast -dsimp[d0];refine aA (Gj f bI j8 Kf (by omega) X _ w2 (Kr.below fP)) ?_;rintro r w3 ⟨hE,gB⟩;have z3:=gB.size;have oV:=fP.trans (gB.mono (by omega));have P3:=bP.aL.below gB (by omega);cases jr:ql f with
 | some e =>
  rw[jr]at hE;have hE0:=hE;obtain⟨c,e⟩:=e;obtain⟨eb,Dx,rfl,VV⟩:=hE;push_cast -dsimp;refine aI (n:=2) (by kernel_rfl) P3 rfl (by simp) (by simp[Value.oneCell']) ?_;intro w4 aj;have P4:aN w4 w1.heap.size 71 [.slice none 0 0,.bool false]:=aj.aL;have d4:aB w4 ⟨w1.heap.size,0,none⟩ 0 2=some [.slice none 0 0,.bool false]:=P4.aB;push_cast -dsimp[d4];refine⟨?_,oV.trans (aj.kept.below (by omega) (λi h=>by omega))⟩;unfold tT;rw[jr];exact⟨_,rfl,eb,by omega,rfl,VV.kept aj.kept (by omega)⟩
 | none =>
  rw[jr]at hE;have hE:r=.nilIface:=hE;subst hE;have oo:=BS jr;obtain⟨nm,oo⟩:=oo;have F3:=F2.below gB (by omega);have d3:aB w3 ⟨w.heap.size,0,none⟩ 0 3=some [.slice ca cs.length cc,.slice ra rs.length rc,.bool f.els]:=F3.aB;push_cast -dsimp[d3];refine aA (IZ f bI.1 Kf _ _ w3 (Kr.top.below oV)) ?_;rintro r w4 ⟨hN,kK⟩;have z4:=kK.size;have ir:=oV.trans (kK.mono (by omega));unfold mq at hN;rw[oo]at hN;obtain⟨mb,hmb,rfl,hNV,VW⟩:=hN;have F4:=F3.below kK (by omega);have e2:w4.cell? ⟨w.heap.size,2,none⟩=some (.bool f.els):=F4.cell rfl;push_cast -dsimp[e2];refine ah (z:=[.slice none 0 0,.bool false]) (by kernel_rfl) ?_;intro w5 cG;have z5:=cG.size;push_cast -dsimp;refine aI (n:=2) (by kernel_rfl) cG.aL rfl (by simp) (by simp[Value.oneCell']) ?_;intro w6 bW;have z6:=bW.size;have Q6:aN w6 w4.heap.size 71 [.slice none 0 0,.bool f.els]:=bW.aL;have aCG:Below w4.heap.size w4 w6:=cG.below.trans (bW.kept.below (by omega) (λi h=>by omega));have P4:=P3.below kK (by omega);have F6:=F4.below aCG (by omega);have f6:w6.cell? ⟨w.heap.size,1,none⟩=some (.slice ra rs.length rc):=F6.cell rfl;have ET:∃Xc:Nat->Prop,Xc=λb=>(X b/\b<w.heap.size)\/b=w1.heap.size\/w4.heap.size<=b:=⟨_,rfl⟩;obtain⟨Xc,ET⟩:=ET;have hN4:fu Xc w4 mb nm:=fu.iT hNV.top (λb hb=>by
   rw[ET]at hb;rcases hb with hb|hb|hb
   ·exact .inl ⟨.inl hb.1,by omega⟩
   ·exact .inl ⟨.inr (by omega),by omega⟩
   exact .inr hb)
  have hR4:dT (mO Xc w4) rs f.rules:=(hR.imp λa c h=>mO.top h).imp λa c h=>⟨h.1,h.2.1,au.iT (h.2.2.1.below ir) (λb hb=>by
   rw[ET]at hb;rcases hb with hb|hb|hb
   ·exact .inl hb.1
   ·exact .inr (by omega)
   exact .inr (by omega)),au.iT (h.2.2.2.below ir) (λb hb=>by
   rw[ET]at hb;rcases hb with hb|hb|hb
   ·exact .inl hb.1
   ·exact .inr (by omega)
   exact .inr (by omega))⟩
  have JP:=NT jr oo;push_cast -dsimp[f6];refine aK [3,9,10,11,12,13,35,36,37,38,39,40,41,42,43,44,45,46,47,48,49,50,51,52,53,54,55,56,57,58,59,60,61,62,63,64,65,66,67,68,69,70,71,72,73,74,75] (λz wx=>∃(i:Nat) (ov:Value) (us:List PV) (l:List bo),z 35=.int .i64 i/\i<=f.rules.length/\aN wx w4.heap.size 71 [ov,.bool f.els]/\Vc.Own w6.heap.size 129 5 gi wx ov us/\us.length=l.length/\(∀(k:Nat) (u:PV) (r:bo),us[k]?=some u->l[k]?=some r->eL (λb=>b=w4.heap.size\/b=w1.heap.size\/ov.ownBlock=some b\/(X b/\b<w.heap.size)) wx (gi u) r)/\dT (λ(r:bo) (q:cQ)=>r.brk=q.brk/\iE (bC nm) true q.before r.before/\iE (bC nm) false q.after r.after) l (f.rules.take i)/\Below w4.heap.size w4 wx/\w6.heap.size<=wx.heap.size) (λz _=>f.rules.length-(intOf (z 35)).toNat) ?_ ?_
  ·exact⟨0,_,[],[],rfl,Nat.zero_le _,Q6,Vc.Own.nil (enc:=gi) _ _ (λ_=>rfl) _,rfl,(by intro k u r h;simp at h),.nil,aCG,Nat.le_refl _⟩
  intro z wx hI;obtain⟨i,ov,us,l,h35,hi,hQ,hO,uV,rB,hA,Nq,zx⟩:=hI;have fq:=hO.block;have TN:=dT.len hA;rw[List.length_take]at TN;push_cast -dsimp[h35];refine⟨λaq=>?_,λeo=>?_⟩
  ·obtain⟨c,hc,s9,_,ht⟩:=ag (l:=f.rules) (i:=i) (by omega);obtain⟨x,hx,JX,xa,Em,wE⟩:=rF hR4 hc;have hrx:=(iW.below ir).below Nq;obtain⟨b1,o,rfl,kL,aM⟩:=hrx.get hx;obtain⟨xp,xb,x1,x2⟩:=x;simp only at JX xa Em wE;subst JX;subst xa;have c4:aB wx ⟨b1,o+i*4,none⟩ 0 4=some [.int .i64 c.pos,.bool c.brk,.pointer (some ⟨x1,0,none⟩),.pointer (some ⟨x2,0,none⟩)]:=ao _ 0 (λj u hu=>by simpa[jD,bx] using aM j u hu);push_cast -dsimp[c4];refine⟨⟨by omega,by omega⟩,?_⟩;refine ah (z:=[.int .i64 0,.bool false,.pointer none,.pointer none]) (by kernel_rfl) ?_;intro wa eB;have za:=eB.size;push_cast -dsimp;refine aI (n:=4) (by kernel_rfl) eB.aL rfl (by simp) (by simp[Value.oneCell']) ?_;intro wb cH;have zb:=cH.size;have Rb:aN wb wx.heap.size 84 [.int .i64 c.pos,.bool c.brk,.pointer (some ⟨x1,0,none⟩),.pointer (some ⟨x2,0,none⟩)]:=cH.aL;have aLr:Below wx.heap.size wx wb:=eB.below.trans (cH.kept.below (by omega) (λi h=>by omega));have YK:=Nq.trans (aLr.mono (by omega));have r2:wb.cell? ⟨wx.heap.size,2,none⟩=some (.pointer (some ⟨x1,0,none⟩)):=Rb.cell rfl;have wC:=JP c s9;push_cast -dsimp[r2];refine aA (FO c.before (cf c s9).1 (bI.2 c s9).1 (j8 c s9).1 nm wC.1 VW Xc _ mb true wb (Em.below YK) (hN4.below YK)) ?_;rintro _ wc ⟨hK1,ng⟩;have zc:=ng.size;obtain⟨s1,i1,ev1,rfl,o1,p1,hK1⟩:=hK1.cases;have aPA:=aLr.trans (ng.mono (by omega));push_cast -dsimp;refine ah (z:=[.slice none 0 0,.slice none 0 0]) (by kernel_rfl) ?_;intro wd jI;have zd:=jI.size;push_cast -dsimp
   refine aI (n:=2) (by kernel_rfl) jI.aL rfl (by simp) (by simp[o1,p1]) ?_;intro we mI;have ze:=mI.size;have C1e:aN we wc.heap.size 127 [s1,i1]:=mI.aL;have aG2:Below wc.heap.size wc we:=jI.below.trans (mI.kept.below (by omega) (λi h=>by omega));have YR:=aPA.trans (aG2.mono (by omega));have Sw:=Nq.trans (YR.mono (by omega));have Re:=(Rb.below ng (by omega)).below aG2 (by omega);have r3:we.cell? ⟨wx.heap.size,3,none⟩=some (.pointer (some ⟨x2,0,none⟩)):=Re.cell rfl;push_cast -dsimp[r3];refine aA (FO c.after (cf c s9).2 (bI.2 c s9).2 (j8 c s9).2 nm wC.2 VW Xc _ mb false we (wE.below Sw) (hN4.below Sw)) ?_;rintro _ wf ⟨hK2,YM⟩;have zf:=YM.size;obtain⟨s2,i2,ev2,rfl,o2,p2,hK2⟩:=hK2.cases;have aPB:=YR.trans (YM.mono (by omega));push_cast -dsimp;refine ah (z:=[.slice none 0 0,.slice none 0 0]) (by kernel_rfl) ?_;intro wg mJ;have zg:=mJ.size;push_cast -dsimp;refine aI (n:=2) (by kernel_rfl) mJ.aL rfl (by simp) (by simp[o2,p2]) ?_;intro wh Ml;have zh:=Ml.size;have C2h:aN wh wf.heap.size 127 [s2,i2]:=Ml.aL;have YN:Below wf.heap.size wf wh:=mJ.below.trans (Ml.kept.below (by omega) (λi h=>by omega));have TC:=aPB.trans (YN.mono (by omega));have zxh:=TC.size;have Hj:=Nq.trans (TC.mono (by omega));have Rh:=(Re.below YM (by omega)).below YN (by omega);have C1h:=(C1e.below YM (by omega)).below YN (by omega);rcases hK1 with ⟨rfl,k1,hV1,hC1⟩|⟨rfl,yq⟩
   ·rcases hK2 with ⟨rfl,k2,qn,hC2⟩|⟨rfl,oX⟩
    ·have dQ:wh.cell? ⟨w4.heap.size,0,none⟩=some ov:=(hQ.below TC (by omega)).cell rfl;have r1:wh.cell? ⟨wx.heap.size,1,none⟩=some (.bool c.brk):=Rh.cell rfl;have dC1:aB wh ⟨wc.heap.size,0,none⟩ 0 2=some [s1,i1]:=C1h.aB;have dC2:aB wh ⟨wf.heap.size,0,none⟩ 0 2=some [s2,i2]:=C2h.aB;have aPb:=hV1;have aPd:=qn;obtain⟨sv1,iv1,aLa,aQ7,aQe⟩:=aPb;obtain⟨sv2,iv2,aLb,TX,Hs⟩:=aPd;simp only[Value.agg.injEq,Array.mk.injEq,List.cons.injEq,and_true]at aLa aLb;obtain⟨rfl,rfl⟩:=aLa;obtain⟨rfl,rfl⟩:=aLb;obtain⟨a1,n1,rfl,_⟩:=aQ7.shape;obtain⟨a2,n2,rfl,_⟩:=aQe.shape;obtain⟨a3,n3,rfl,_⟩:=TX.shape;obtain⟨a4,n4,rfl,_⟩:=Hs.shape;push_cast -dsimp[dQ,r1,dC1,dC2];refine cF xl rfl rfl (by omega) ?_;intro wr pH;have zr:=pH.size;have aCK:=TC.trans (pH.below.mono (by omega));have hOr:=hO.below aCK;have hQr:=hQ.below aCK (by omega);push_cast -dsimp;refine aP (base:=w6.heap.size) [(⟨c.brk,⟨a1,k1.sets.length,n1⟩,⟨a2,k1.ins.length,n2⟩,⟨a3,k2.sets.length,n3⟩,⟨a4,k2.ins.length,n4⟩⟩:PV)] (enc:=gi) xl hOr (by rfl) (λj u hu=>by rw[Nat.zero_add];exact pH.cell hu) xm (by simp only[List.length_cons,List.length_nil];omega) (by omega) ?_;intro vq wq AO Eb hnq;have qz:Kept (λj=>ov.ownBlock=some j) wr wq:=Kept.grown Eb (λ_ h=>h);have zq:=qz.size;have Gq:=hQr.kept qz (λh=>by have:=fq _ h;omega);have aQL:=AO.block;obtain⟨qa,qc,rfl⟩:=AO.slice;push_cast -dsimp;refine aC Gq (by simp) rfl ?_;intro ws hws;have zs:=hws.size
     have Qs:aN ws w4.heap.size 71 [.slice qa (us++[(⟨c.brk,⟨a1,k1.sets.length,n1⟩,⟨a2,k1.ins.length,n2⟩,⟨a3,k2.sets.length,n3⟩,⟨a4,k2.ins.length,n4⟩⟩:PV)]).length qc,.bool f.els]:=hws.aL;have hOs:=AO.aH hws.kept (λg hg h=>by have:=aQL g hg;have h':g=w4.heap.size:=h;omega);have krs:Kept (λj=>j=w4.heap.size\/ov.ownBlock=some j) wr ws:=(qz.weaken (λj _ h=>.inr h)).trans hws.kept (λj _ h=>.inl h);have hY:∃Y:Nat->Prop,Y=λb=>(b=w4.heap.size\/b=w1.heap.size\/ov.ownBlock=some b\/(X b/\b<w.heap.size))\/wr.heap.size<=b:=⟨_,rfl⟩;obtain⟨Y,hY⟩:=hY;have hkY:∀j,(j=w4.heap.size\/ov.ownBlock=some j)->Y j:=λj h=>by
      rw[hY];rcases h with h|h
      ·exact .inl (.inl h)
      exact .inl (.inr (.inr (.inl h)))
     have hYs:∀b,(b=w4.heap.size\/b=w1.heap.size\/(Value.slice qa (us++[(⟨c.brk,⟨a1,k1.sets.length,n1⟩,⟨a2,k1.ins.length,n2⟩,⟨a3,k2.sets.length,n3⟩,⟨a4,k2.ins.length,n4⟩⟩:PV)]).length qc).ownBlock=some b\/(X b/\b<w.heap.size))->Y b:=λb hb=>by
      rw[hY];rcases hb with hb|hb|hb|hb
      ·exact .inl (.inl hb)
      ·exact .inl (.inr (.inl hb))
      ·rcases hnq b hb with h|h
       ·exact .inl (.inr (.inr (.inl h)))
       exact .inr h
      exact .inl (.inr (.inr (.inr hb)))
     have hcw:∀b,b<wr.heap.size->Y b->Xc b/\b<wb.heap.size:=λb hb hy=>by
      rw[hY]at hy;rw[ET];rcases hy with (hy|hy|hy|hy)|hy
      ·exact⟨.inr (.inr (by omega)),by omega⟩
      ·exact⟨.inr (.inl hy),by have:=ir.size;omega⟩
      ·have:=fq b hy;exact⟨.inr (.inr (by omega)),by omega⟩
      ·exact⟨.inl hy,by have:=ir.size;omega⟩
      omega
     have aPw:Below wc.heap.size wc wr:=aG2.trans ((YM.mono (by omega)).trans ((YN.mono (by omega)).trans (pH.below.mono (by omega))));have aPy:Below wf.heap.size wf wr:=YN.trans (pH.below.mono (by omega));have aPc:cz Y ws (.agg #[.slice a1 k1.sets.length n1,.slice a2 k1.ins.length n2]) k1:=cz.kept ((hV1.below aPw).narrow hcw) krs hkY;have aPf:cz Y ws (.agg #[.slice a3 k2.sets.length n3,.slice a4 k2.ins.length n4]) k2:=cz.kept ((qn.below aPy).narrow (λb hb hy=>by have:=hcw b hb hy;exact⟨this.1,by omega⟩)) krs hkY;have aRe:∀(k:Nat) (u:PV) (r:bo),(us++[(⟨c.brk,⟨a1,k1.sets.length,n1⟩,⟨a2,k1.ins.length,n2⟩,⟨a3,k2.sets.length,n3⟩,⟨a4,k2.ins.length,n4⟩⟩:PV)])[k]?=some u->(l++[(⟨c.brk,k1,k2⟩:bo)])[k]?=some r->eL (λb=>b=w4.heap.size\/b=w1.heap.size\/(Value.slice qa (us++[(⟨c.brk,⟨a1,k1.sets.length,n1⟩,⟨a2,k1.ins.length,n2⟩,⟨a3,k2.sets.length,n3⟩,⟨a4,k2.ins.length,n4⟩⟩:PV)]).length qc).ownBlock=some b\/(X b/\b<w.heap.size)) ws (gi u) r:=λk u r h1 h2=>by
      have QW:k<(us++[(⟨c.brk,⟨a1,k1.sets.length,n1⟩,⟨a2,k1.ins.length,n2⟩,⟨a3,k2.sets.length,n3⟩,⟨a4,k2.ins.length,n4⟩⟩:PV)]).length:=(List.getElem?_eq_some_iff.1 h1).1;by_cases hk:k<us.length
      ·rw[List.getElem?_append_left hk]at h1;rw[List.getElem?_append_left (by omega)]at h2;have h3:=((rB k u r h1 h2).below aCK).narrow (X':=Y) (λb hb hy=>by
        rw[hY]at hy;rcases hy with hy|hy
        ·exact hy
        omega)
       exact(h3.aFL krs hkY).narrow (λb _ hb=>hYs b hb)
      have eD:k=us.length:=by rw[List.length_append,List.length_cons,List.length_nil]at QW;omega
      subst eD;rw[List.getElem?_append_right (Nat.le_refl _),Nat.sub_self]at h1;rw[uV,List.getElem?_append_right (Nat.le_refl _),Nat.sub_self]at h2;simp at h1 h2;subst h1;subst h2;exact⟨_,_,_,_,rfl,aPc.narrow (λb _ hb=>hYs b hb),aPf.narrow (λb _ hb=>hYs b hb)⟩
     have aPv:Below w4.heap.size w4 ws:=Nq.trans ((aCK.mono (by omega)).trans (krs.below (by omega) (λj h=>by
      rcases h with h|h
      ·omega
      have:=fq j h;omega)))
     push_cast -dsimp;refine⟨⟨by omega,by omega⟩,⟨i+1,_,_,l++[(⟨c.brk,k1,k2⟩:bo)],rfl,by omega,Qs,hOs,by simp[uV],aRe,by rw[ht];exact dT.snoc hA ⟨rfl,hC1,hC2⟩,aPv,by omega⟩,by rw[h35];simp only[intOf];omega⟩
    skip;push_cast -dsimp;have r0:wh.drew.cell? ⟨wx.heap.size,0,none⟩=some (.int .i64 c.pos):=Rh.drew.cell rfl;have Dt:∀bQ,aN bQ wx.heap.size 84 [.int .i64 c.pos,.bool c.brk,.pointer (some ⟨x1,0,none⟩),.pointer (some ⟨x2,0,none⟩)]->bQ.cell? ⟨wx.heap.size,0,none⟩=some (.int .i64 c.pos):=λbQ h=>h.cell rfl;refine xX (.one 0 (.one 1 (.one 2 (.one 3 (.two 4 (.one 5 (.one 6 (.one 7 .done))) 6 (.one 4 (.one 5 (.one 7 .done)))))))) (λw'=>aN w' wx.heap.size 84 [.int .i64 c.pos,.bool c.brk,.pointer (some ⟨x1,0,none⟩),.pointer (some ⟨x2,0,none⟩)]) mixed (by kernel_rfl) Rh.drew ?_;push_cast -dsimp[r0];refine⟨λbQ h=>by rw[Dt bQ h];exact rfl,?_,?_⟩
    ·refine aS ?_;intro wi gu;have gu:mN wh.drew wi 143 [.int .i64 4,.int .i64 c.pos]:=gu;have zi:wi.heap.size=wh.heap.size+1:=gu.size;have K0:Below wh.heap.size wh wi:=(da wh).trans (gu.below.mono (Nat.le_refl _));have Ri:=Rh.below K0 (by omega);refine⟨Ri,?_⟩;have Bn:=Hj.trans (K0.mono (by omega));have Pi:=P4.below Bn (by omega);push_cast -dsimp;refine aI (n:=2) (by kernel_rfl) Pi rfl (by simp) (by simp[Value.oneCell']) ?_;intro wj gF;have Pj:aN wj w1.heap.size 71 [.slice none 0 0,.bool false]:=gF.aL;have dj:aB wj ⟨w1.heap.size,0,none⟩ 0 2=some [.slice none 0 0,.bool false]:=Pj.aB;refine⟨Ri.kept gF.kept (by omega),?_⟩;push_cast -dsimp[dj];refine⟨?_,(ir.trans (Bn.mono (by omega))).trans (gF.kept.below (by have:=Bn.size;omega) (λi h=>by omega))⟩;unfold tT;rw[jr];exact .inr ⟨c,s9,.inr oX,_,rfl,wh.heap.size,by omega,rfl,gu.aL.kept gF.kept (by show ¬wh.heap.size=w1.heap.size;omega)⟩
    have Pd:=(P4.below Hj (by omega)).drew;refine aI (n:=2) (by kernel_rfl) Pd rfl (by simp) (by simp[Value.oneCell']) ?_;intro wi gu;have zi:wi.heap.size=wh.heap.size:=gu.size;have Pi:aN wi w1.heap.size 71 [.slice none 0 0,.bool false]:=gu.aL;have Ri:=Rh.drew.kept gu.kept (by omega);refine⟨Ri,?_⟩;push_cast -dsimp;refine aS ?_;intro wj gF;have gF:mN wi wj 143 [.int .i64 4,.int .i64 c.pos]:=gF;have Pj:=Pi.below gF.below Pi.lt;have dj:aB wj ⟨w1.heap.size,0,none⟩ 0 2=some [.slice none 0 0,.bool false]:=Pj.aB;refine⟨Ri.below gF.below Ri.lt,?_⟩;push_cast -dsimp[dj];have vp:Below w.heap.size w wh:=ir.trans (Hj.mono (by omega));have FZ:Kept (λi=>i=w1.heap.size) wh wi:=((Kept.refl (λi=>i=w1.heap.size) wh).drew).trans gu.kept (λ_ _ h=>h);refine⟨?_,(vp.trans (FZ.below (by have:=vp.size;omega) (λi h=>by omega))).trans (gF.below.mono (by have:=vp.size;omega))⟩;unfold tT;rw[jr];exact .inr ⟨c,s9,.inr oX,_,rfl,wi.heap.size,by have:=vp.size;omega,rfl,gF.aL⟩
   rcases hK2 with ⟨rfl,k2,qn,hC2⟩|⟨rfl,oX⟩
   ·skip;push_cast -dsimp;have r0:wh.drew.cell? ⟨wx.heap.size,0,none⟩=some (.int .i64 c.pos):=Rh.drew.cell rfl;have Dt:∀bQ,aN bQ wx.heap.size 84 [.int .i64 c.pos,.bool c.brk,.pointer (some ⟨x1,0,none⟩),.pointer (some ⟨x2,0,none⟩)]->bQ.cell? ⟨wx.heap.size,0,none⟩=some (.int .i64 c.pos):=λbQ h=>h.cell rfl;refine xX (.one 0 (.one 1 (.one 2 (.one 3 (.two 4 (.one 5 (.one 6 (.one 7 .done))) 6 (.one 4 (.one 5 (.one 7 .done)))))))) (λw'=>aN w' wx.heap.size 84 [.int .i64 c.pos,.bool c.brk,.pointer (some ⟨x1,0,none⟩),.pointer (some ⟨x2,0,none⟩)]) mixed (by kernel_rfl) Rh.drew ?_;push_cast -dsimp[r0];refine⟨λbQ h=>by rw[Dt bQ h];exact rfl,?_,?_⟩
    ·refine aS ?_;intro wi gu;have gu:mN wh.drew wi 143 [.int .i64 4,.int .i64 c.pos]:=gu;have zi:wi.heap.size=wh.heap.size+1:=gu.size;have K0:Below wh.heap.size wh wi:=(da wh).trans (gu.below.mono (Nat.le_refl _));have Ri:=Rh.below K0 (by omega);refine⟨Ri,?_⟩;have Bn:=Hj.trans (K0.mono (by omega));have Pi:=P4.below Bn (by omega);push_cast -dsimp;refine aI (n:=2) (by kernel_rfl) Pi rfl (by simp) (by simp[Value.oneCell']) ?_;intro wj gF;have Pj:aN wj w1.heap.size 71 [.slice none 0 0,.bool false]:=gF.aL;have dj:aB wj ⟨w1.heap.size,0,none⟩ 0 2=some [.slice none 0 0,.bool false]:=Pj.aB;refine⟨Ri.kept gF.kept (by omega),?_⟩;push_cast -dsimp[dj];refine⟨?_,(ir.trans (Bn.mono (by omega))).trans (gF.kept.below (by have:=Bn.size;omega) (λi h=>by omega))⟩;unfold tT;rw[jr];exact .inr ⟨c,s9,.inl yq,_,rfl,wh.heap.size,by omega,rfl,gu.aL.kept gF.kept (by show ¬wh.heap.size=w1.heap.size;omega)⟩
    have Pd:=(P4.below Hj (by omega)).drew;refine aI (n:=2) (by kernel_rfl) Pd rfl (by simp) (by simp[Value.oneCell']) ?_;intro wi gu;have zi:wi.heap.size=wh.heap.size:=gu.size;have Pi:aN wi w1.heap.size 71 [.slice none 0 0,.bool false]:=gu.aL;have Ri:=Rh.drew.kept gu.kept (by omega);refine⟨Ri,?_⟩;push_cast -dsimp;refine aS ?_;intro wj gF;have gF:mN wi wj 143 [.int .i64 4,.int .i64 c.pos]:=gF;have Pj:=Pi.below gF.below Pi.lt;have dj:aB wj ⟨w1.heap.size,0,none⟩ 0 2=some [.slice none 0 0,.bool false]:=Pj.aB;refine⟨Ri.below gF.below Ri.lt,?_⟩;push_cast -dsimp[dj];have vp:Below w.heap.size w wh:=ir.trans (Hj.mono (by omega));have FZ:Kept (λi=>i=w1.heap.size) wh wi:=((Kept.refl (λi=>i=w1.heap.size) wh).drew).trans gu.kept (λ_ _ h=>h);refine⟨?_,(vp.trans (FZ.below (by have:=vp.size;omega) (λi h=>by omega))).trans (gF.below.mono (by have:=vp.size;omega))⟩;unfold tT;rw[jr];exact .inr ⟨c,s9,.inl yq,_,rfl,wi.heap.size,by have:=vp.size;omega,rfl,gF.aL⟩
   skip;push_cast -dsimp;have r0:wh.drew.cell? ⟨wx.heap.size,0,none⟩=some (.int .i64 c.pos):=Rh.drew.cell rfl;have Dt:∀bQ,aN bQ wx.heap.size 84 [.int .i64 c.pos,.bool c.brk,.pointer (some ⟨x1,0,none⟩),.pointer (some ⟨x2,0,none⟩)]->bQ.cell? ⟨wx.heap.size,0,none⟩=some (.int .i64 c.pos):=λbQ h=>h.cell rfl;refine xX (.one 0 (.one 1 (.one 2 (.one 3 (.two 4 (.one 5 (.one 6 (.one 7 .done))) 6 (.one 4 (.one 5 (.one 7 .done)))))))) (λw'=>aN w' wx.heap.size 84 [.int .i64 c.pos,.bool c.brk,.pointer (some ⟨x1,0,none⟩),.pointer (some ⟨x2,0,none⟩)]) mixed (by kernel_rfl) Rh.drew ?_;push_cast -dsimp[r0];refine⟨λbQ h=>by rw[Dt bQ h];exact rfl,?_,?_⟩
   ·refine aS ?_;intro wi gu;have gu:mN wh.drew wi 143 [.int .i64 4,.int .i64 c.pos]:=gu;have zi:wi.heap.size=wh.heap.size+1:=gu.size;have K0:Below wh.heap.size wh wi:=(da wh).trans (gu.below.mono (Nat.le_refl _));have Ri:=Rh.below K0 (by omega);refine⟨Ri,?_⟩;have Bn:=Hj.trans (K0.mono (by omega));have Pi:=P4.below Bn (by omega);push_cast -dsimp;refine aI (n:=2) (by kernel_rfl) Pi rfl (by simp) (by simp[Value.oneCell']) ?_;intro wj gF;have Pj:aN wj w1.heap.size 71 [.slice none 0 0,.bool false]:=gF.aL;have dj:aB wj ⟨w1.heap.size,0,none⟩ 0 2=some [.slice none 0 0,.bool false]:=Pj.aB;refine⟨Ri.kept gF.kept (by omega),?_⟩;push_cast -dsimp[dj];refine⟨?_,(ir.trans (Bn.mono (by omega))).trans (gF.kept.below (by have:=Bn.size;omega) (λi h=>by omega))⟩;unfold tT;rw[jr];exact .inr ⟨c,s9,.inl yq,_,rfl,wh.heap.size,by omega,rfl,gu.aL.kept gF.kept (by show ¬wh.heap.size=w1.heap.size;omega)⟩
   have Pd:=(P4.below Hj (by omega)).drew;refine aI (n:=2) (by kernel_rfl) Pd rfl (by simp) (by simp[Value.oneCell']) ?_;intro wi gu;have zi:wi.heap.size=wh.heap.size:=gu.size;have Pi:aN wi w1.heap.size 71 [.slice none 0 0,.bool false]:=gu.aL;have Ri:=Rh.drew.kept gu.kept (by omega);refine⟨Ri,?_⟩;push_cast -dsimp;refine aS ?_;intro wj gF;have gF:mN wi wj 143 [.int .i64 4,.int .i64 c.pos]:=gF;have Pj:=Pi.below gF.below Pi.lt;have dj:aB wj ⟨w1.heap.size,0,none⟩ 0 2=some [.slice none 0 0,.bool false]:=Pj.aB;refine⟨Ri.below gF.below Ri.lt,?_⟩;push_cast -dsimp[dj];have vp:Below w.heap.size w wh:=ir.trans (Hj.mono (by omega));have FZ:Kept (λi=>i=w1.heap.size) wh wi:=((Kept.refl (λi=>i=w1.heap.size) wh).drew).trans gu.kept (λ_ _ h=>h);refine⟨?_,(vp.trans (FZ.below (by have:=vp.size;omega) (λi h=>by omega))).trans (gF.below.mono (by have:=vp.size;omega))⟩;unfold tT;rw[jr];exact .inr ⟨c,s9,.inl yq,_,rfl,wi.heap.size,by have:=vp.size;omega,rfl,gF.aL⟩
  rw[List.take_of_length_le (by omega)]at hA;obtain⟨oa,oc,rfl⟩:=hO.slice;have dQ:aB wx ⟨w4.heap.size,0,none⟩ 0 2=some [.slice oa us.length oc,.bool f.els]:=hQ.aB;have Px:=P4.below Nq (by omega);push_cast -dsimp[dQ];refine aI (n:=2) (by kernel_rfl) Px rfl (by simp) (by simp[Value.oneCell']) ?_;intro wj gF;have Pj:aN wj w1.heap.size 71 [.slice oa us.length oc,.bool f.els]:=gF.aL;have dj:aB wj ⟨w1.heap.size,0,none⟩ 0 2=some [.slice oa us.length oc,.bool f.els]:=Pj.aB;have hOj:=hO.aH gF.kept (λg hg h=>by have:=fq g hg;have h':g=w1.heap.size:=h;omega);have Bq:Below w.heap.size w wx:=ir.trans (Nq.mono (by omega));push_cast -dsimp[dj];refine⟨?_,Bq.trans (gF.kept.below (by have:=Bq.size;omega) (λi h=>by omega))⟩;unfold tT;rw[jr];refine .inl ⟨nm,⟨l,f.els⟩,_,oo,rfl,⟨_,rfl,(xD (R:=eL (λb=>X b/\b<w.heap.size) wj) hOj uV (λk r hr=>?_)).weaken (λb hb=>by have:=hb.2;omega)⟩,rfl,hA⟩;obtain⟨u,hu,_⟩:=ag (l:=us) (i:=k) (by have:=(List.getElem?_eq_some_iff.1 hr).1;omega);exact⟨u,hu,((rB k u r hu hr).aFL gF.kept (λj h=>.inr (.inl h))).narrow (λb _ hb=>.inr (.inr (.inr hb)))⟩
end Go.Proofs.YtemjejfpadnljaaGreatDoor
