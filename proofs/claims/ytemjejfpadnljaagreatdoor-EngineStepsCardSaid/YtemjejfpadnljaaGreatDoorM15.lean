/- Texts of this claim, merged: RvP, Cd3, Pmir, Cd4, Cd5, Cd6, Pcod4, Cd7, Cd8, Vt, Cd9. -/
import Derived.Test.YtemjejfpadnljaaGreatDoorM14
set_option maxRecDepth 100000
set_option linter.unusedSimpArgs false
set_option linter.unusedVariables false
set_option maxHeartbeats 8000000
section
namespace Go.Proofs.YtemjejfpadnljaaGreatDoor
open Go.Vc Go.Proofs Go.RowKit Cae
attribute [local irreducible] cg aa ag aX runK ar Sl Vc.Own vc aQ br a7
theorem aP.below {X:Nat->Prop}{w w':World}{l:List aG}{vs:List Nat}(h:aP X w vs l)(hb:Below w.heap.size w w'):aP X w' vs l :=
 aP.mono (X:=λb=>X b\/w.heap.size<=b) (Y:=λb=>w.heap.size<=b) (Kept.aN hb (λi h1 h2=>h1)) (λ_ h=>.inr h) (λ_ h=>.inl h) h.top
theorem aP.reverse {X:Nat->Prop}{w:World}:∀{l:List aG} {vs:List Nat},aP X w vs l->aP X w vs.reverse l.reverse
 | [],[],_=>by simp only[List.reverse_nil,aP]
 | [],_::_,h=>by simp only[aP]at h
 | _::_,[],h=>by simp only[aP]at h
 | x::l,v::vs,h=>by
  simp only[aP]at h;rw[List.reverse_cons,List.reverse_cons];exact aP.snoc (aP.reverse h.2) h.1
theorem M7 (l:List Nat)(base:Nat)(v:Value)(w:World)(hn:l.length<1000000000)(ho:Vc.Own base 82 1 fi w v l)(hb0:base<=w.heap.size) :
  ar Tryz.prog 137 [v] w λ_ w'=>Vc.Own base 82 1 fi w' v l.reverse/\Kept (λj=>v.ownBlock=some j) w w':=by
 obtain⟨a,c,rfl⟩:=ho.slice;refine aE Tryz.func137 rfl (by kernel_rfl) [] rfl ?_;push_cast -dsimp(maxSteps:=4000000) [Tryz.ntmps137];refine⟨⟨by omega,by omega⟩,?_⟩;refine aK [2,3,7,8,9,10,11,12,13,14,15,16,17,18,19,20,21,22,23,24,25,26,27] (λz wx=>∃(i:Nat) (cur:List Nat),z 2=.int .i64 i/\z 3=.int .i64 ((l.length:Int)-1-i)/\2*i<=l.length/\cur.length=l.length/\(∀k,k<l.length->cur[k]?=if k<i\/l.length-i<=k then l[l.length-1-k]? else l[k]?)/\Vc.Own base 82 1 fi wx (.slice a l.length c) cur/\Kept (λj=>(Value.slice a l.length c).ownBlock=some j) w wx) (λz _=>l.length-(intOf (z 2)).toNat) ?_ ?_
 ·exact⟨0,l,rfl,by simp[at_],by omega,rfl,λk hk=>by rw[if_neg (by omega)],ho,Kept.refl _ _⟩
 intro z wx hI;obtain⟨i,cur,h2,h3,hi,iQ,GA,eG,hb⟩:=hI;have yS:=hb.size;push_cast -dsimp[h2,h3];refine⟨λaj=>?_,λeo=>?_⟩
 ·have hex:∃(x y:Nat) (g:Nat),cur[i]?=some x/\cur[l.length-1-i]?=some y/\a=some ⟨g,0,none⟩/\wx.cell? ⟨g,i,none⟩=some (bw x)/\wx.cell? ⟨g,l.length-1-i,none⟩=some (bw y):=by
   obtain⟨x,hx,_⟩:=ah (l:=cur) (i:=i) (by omega);obtain⟨y,hy,_⟩:=ah (l:=cur) (i:=l.length-1-i) (by omega);have oU:=eG.sl.get hx;have Cg:=eG.sl.get hy;obtain⟨b,o,e,_,hcx⟩:=oU;obtain⟨b',o',e',_,Nc⟩:=Cg;rw[e]at e';cases e';have ho0:o=0:=Vc.Own.ZG (by rw[<-e];exact eG);subst ho0;exact⟨x,y,b,hx,hy,e,by simpa using hcx 0 _ rfl,by simpa using Nc 0 _ rfl⟩
  obtain⟨x,y,g,hx,hy,he,cx,cy⟩:=hex;subst he;have ej:((l.length:Int)-1-i)=((l.length-1-i:Nat):Int):=by omega
  rw[ej];unfold bw at cx cy;refine Bh [0,1,2,3,4,5,6,7,8,9,10,11,12] 13 [14,15] (λw'=>w'=wx.drew) mixed (by kernel_rfl) rfl ?_;have cx':wx.drew.cell? ⟨g,i,none⟩=some (.pointer (some ⟨x,0,none⟩)):=cx;have cy':wx.drew.cell? ⟨g,l.length-1-i,none⟩=some (.pointer (some ⟨y,0,none⟩)):=cy;have hod:Vc.Own base 82 1 fi wx.drew (.slice (some ⟨g,0,none⟩) l.length c) cur:=eG.aJ (Kept.refl (λ_=>False) _).drew (λ_ _ h=>h);push_cast -dsimp[cx',cy'];refine⟨⟨by omega,by omega⟩,λbE hC=>by rw[hC,cy'];exact rfl,⟨by omega,by omega⟩,λbE hC=>by rw[hC,cx'];exact rfl,⟨by omega,by omega⟩,?_⟩;refine vF (i:=i) (y:=y) hod rfl (by omega) rfl rfl ?_;intro w1 uN Nk ph;refine⟨trivial,?_⟩;push_cast -dsimp;refine⟨⟨by omega,by omega⟩,?_⟩;have xB:l.length-1-i<(cur.set i y).length:=by rw[List.length_set];omega
  have mZ:(cur.set i y).length=cur.length:=List.length_set;refine vF (i:=l.length-1-i) (y:=x) uN rfl xB rfl rfl ?_;intro w2 lC jI BV;have hkd:Kept (λj=>(Value.slice (some ⟨g,0,none⟩) l.length c).ownBlock=some j) wx w2:=(((Kept.refl (λj=>j=g) wx).drew).trans Nk (λ_ _ h=>h)).trans jI (λ_ _ h=>h) |>.weaken (λj _ h=>by rw[h];rfl);refine⟨trivial,?_⟩;push_cast -dsimp;refine⟨⟨by omega,by omega⟩,⟨by omega,by omega⟩,⟨i+1,(cur.set i y).set (l.length-1-i) x,rfl,by congr 1;omega,by omega,by rw[List.length_set,List.length_set];exact iQ,λk hk=>?_,lC,hb.trans hkd (λ_ _ h=>h)⟩,by rw[h2];simp only[intOf];omega⟩;rw[List.getElem?_set,List.getElem?_set];have CZ:=GA i (by omega);have qL:=GA (l.length-1-i) (by omega);rw[if_neg (by omega)]at CZ qL;rw[hx]at CZ;rw[hy]at qL;by_cases e1:l.length-1-i=k
  ·rw[if_pos e1,if_pos xB,if_pos (by omega),CZ];congr 1;omega
  rw[if_neg e1];by_cases e2:i=k
  ·rw[if_pos e2,if_pos (by omega),if_pos (by omega),qL];congr 1;omega
  rw[if_neg e2,GA k hk];by_cases e3:k<i\/l.length-i<=k
  ·rw[if_pos e3,if_pos (by omega)]
  rw[if_neg e3,if_neg (by omega)]
 have aFd:cur=l.reverse:=by
  apply List.ext_getElem?;intro k;by_cases hk:k<l.length
  ·rw[GA k hk,List.getElem?_reverse hk];split
   ·rfl
   congr 1;omega
  rw[List.getElem?_eq_none (by omega),List.getElem?_eq_none (by rw[List.length_reverse];omega)]
 subst aFd;exact⟨eG,hb⟩
end Go.Proofs.YtemjejfpadnljaaGreatDoor
end
section
namespace Cae
theorem lM:∀(l m:List aG),bh (l++m)=bh l+bh m
 | [],m=>by simp[bh]
 | x::l,m=>by rw[List.cons_append,bh,bh,lM l m];omega
theorem iK:∀(l:List aG),bh l.reverse=bh l
 | []=>rfl
 | x::l=>by rw[List.reverse_cons,lM,iK l,bh,bh,bh];omega
theorem zN (l:List aG)(i:Nat){y:aG}(h:l[i]?=some y):bh (l.take i)+bF y<=bh l/\bh (l.take (i+1))=bh (l.take i)+bF y:=by
 obtain⟨aj,he⟩:=List.getElem?_eq_some_iff.1 h;have e1:l.take (i+1)=l.take i++[y]:=by rw[List.take_add_one,h];rfl
 have e2:bh (l.take (i+1))=bh (l.take i)+bF y:=by rw[e1,lM];simp[bh]
 have e3:bh l=bh (l.take (i+1))+bh (l.drop (i+1)):=by rw[<-lM,List.take_append_drop]
 exact⟨by omega,e2⟩
section
variable {has:aw->Int->Prop} {c c':aD} {back:Bool}
theorem Ji {back:Bool}:∀(l m:List aG) (a b:Nat),jy has c back (l++m) a b↔∃k,jy has c back l a k/\jy has c back m k b
 | [],m,a,b=>by simp[jy]
 | x::l,m,a,b=>by
  simp only[List.cons_append,jy,Ji l m];constructor
  ·rintro⟨k,h1,j,h2,h3⟩;exact⟨j,⟨k,h1,h2⟩,h3⟩
  rintro⟨j,⟨k,h1,h2⟩,h3⟩;exact⟨k,h1,j,h2,h3⟩
def yQ (has:aw->Int->Prop)(c:aD)(back:Bool)(l:List aG)(n a b:Nat):Prop:=if back then nP has c back (l.drop (l.length-n)) a b else jy has c back (l.take n) a b
def oG (back:Bool)(l:List aG):List aG:=if back then l.reverse else l
theorem uk (l:List aG):(oG back l).length=l.length:=by unfold oG;split<;>simp
theorem EE {l:List aG}{a:Nat}:yQ has c back l 0 a a:=by
 unfold yQ;split
 ·simp[nP]
 simp[jy]
theorem Jk {l:List aG}{a b:Nat}:yQ has c back l l.length a b↔iC has c back (.cat l) a b:=by
 unfold yQ;simp only[iC,Nat.sub_self,List.drop_zero,List.take_length]
theorem ED {l:List aG}{n:Nat}{x:aG}{a m b:Nat}(hx:(oG back l)[n]?=some x)(h1:yQ has c back l n a m)(h2:iC has c back x m b):yQ has c back l (n+1) a b:=by
 unfold yQ at h1 ⊢
 unfold oG at hx;by_cases hb:back=true
 ·rw[if_pos hb]at h1 hx ⊢
  have hn:n<l.length:=by have:=(List.getElem?_eq_some_iff.1 hx).1;rw[List.length_reverse]at this;exact this
  rw[List.getElem?_reverse hn]at hx;have aj:l.length-(n+1)<l.length:=by omega
  have e:l.drop (l.length-(n+1))=x::l.drop (l.length-n):=by
   rw[List.drop_eq_getElem_cons aj];have e1:l.length-(n+1)+1=l.length-n:=by omega
   rw[e1];congr 1;have e2:l.length-1-n=l.length-(n+1):=by omega
   rw[e2,List.getElem?_eq_getElem aj]at hx;exact Option.some.inj hx
  rw[e];simp only[nP];exact⟨m,h1,h2⟩
 rw[if_neg hb]at h1 hx ⊢
 have e:l.take (n+1)=l.take n++[x]:=by rw[List.take_add_one,hx];rfl
 rw[e,Ji];exact⟨m,h1,b,h2,by simp[jy]⟩
theorem EC {l:List aG}{n a b:Nat}(hs:eK c c' a b)(h:yQ has c back l n a b):yQ has c' back l n a b:=by
 unfold yQ at h ⊢
 by_cases hb:back=true
 ·rw[if_pos hb]at h ⊢;exact wF _ a b hs h
 rw[if_neg hb]at h ⊢;exact wG _ a b hs h
end
end Cae
namespace Go.Proofs.YtemjejfpadnljaaGreatDoor
open Go.Vc Go.Proofs Go.RowKit Cae
attribute [local irreducible] cg aa ag aX runK ar Sl Vc.Own vc aQ br a7
theorem Ext.same {c c':aD}(h:Ext c c'){a b:Nat}(hb:b<=c.ins.length):eK c c' a b:=⟨λk h1 h2=>by
 rw[List.getElem?_eq_getElem (show k<c.ins.length by omega)]
 exact h.ins k _ (List.getElem?_eq_getElem (by omega)),h.sets⟩
theorem fz.kept {X Y X':Nat->Prop}{w w':World}{b:Nat}{nm:bZ}(h:fz X w b nm)(hk:Kept Y w w')(hY:∀i,Y i->X i)(hb:¬Y b)(hX:∀i,X' i->X i):fz X' w' b nm:=by
 obtain⟨gZ,h2,h3⟩:=h;exact⟨gZ,h2.kept hk hb,h3.imp λa b h=>⟨h.1,(h.2.1.kept hk hY).weaken hX,h.2.2⟩⟩
def nh (x:aG):Prop:=bI x->wd x<=100000->∀(nm:bZ),gx nm x=none->jL nm->∀(B mb nb:Nat) (back:Bool) (X Z:Nat->Prop) (w:World) (c:aD) (v:Value),Mk B mb nb back X w c->(∀b,X b->(Z b\/b=mb\/B<=b)/\b<w.heap.size)->nb<mb->fz (λb=>Z b\/b=mb\/B<=b) w nb nm->bC (λb=>Z b\/b=mb\/B<=b) w v x->c.sets.length<=c.ins.length ->
 xl Tryz.prog 111 [.pointer (some ⟨mb,0,none⟩),v] w
  (λr w'=>(∃c',Mk B mb nb back X w' c'/\Ext c c'/\c'.ins.length=c.ins.length+bF x/\iC (gi nm) c' back x c.ins.length c'.ins.length)/\gM mb w w')
  (λce w'=>2000<c.ins.length+bF x/\Kp 4 ce/\gM mb w w')
theorem Mk.own {B mb nb:Nat}{back:Bool}{X Z:Nat->Prop}{w:World}{c:aD}{sv iv:Value}{us:List SV}(h:Mk B mb nb back X w c)(hM:MkB B mb nb back X w c sv iv us)(hX:∀b,X b->(Z b\/b=mb\/B<=b)/\b<w.heap.size){b:Nat}(hb:X b\/b=mb\/sv.ownBlock=some b\/iv.ownBlock=some b):(Z b\/b=mb\/B<=b)/\b<w.heap.size :=
 hb.elim (hX b) λhb=>⟨.inr (h.mw ((eO hM.1).2 hb)).1,(h.mw ((eO hM.1).2 hb)).2⟩
theorem aDO (k:aw):nh (.one k):=by
 intro bU oV nm jJ hr B mb nb back X Z w c v h hX mJ hN hV qS;simp only[bI]at bU;simp only[bC]at hV;obtain⟨xb,u,rfl,CI,hB,hK⟩:=hV;obtain⟨kb,rfl,D0⟩:=hK.ptr;have jJ:∃s,cC nm k=.ok s:=by
  simp only[gx]at jJ;cases hk:cC nm k with
  | ok s=>exact⟨s,rfl⟩
  | error e=>rw[hk]at jJ;cases jJ
 obtain⟨s,hs⟩:=jJ;have cI:=h.st;obtain⟨sv,iv,us,hM⟩:=cI;have Yn:=hM.1;have aj:=h.lt;have hle:=h.le;have d0:w.cell? ⟨xb,0,none⟩=some (.int .i64 1):=hB.cell rfl;refine bG Tryz.func111 rfl (by kernel_rfl) [] rfl ?_;push_cast -dsimp(maxSteps:=4000000) [Tryz.ntmps111];push_cast -dsimp[d0];have d1:w.drew.cell? ⟨xb,1,none⟩=some (.pointer (some ⟨kb,0,none⟩)):=hB.drew.cell rfl;have d2:w.drew.cell? ⟨mb,2,none⟩=some (.map (some nb)):=Yn.drew.cell rfl;refine ba (λw'=>aL w' xb 158 [.int .i64 1,.pointer (some ⟨kb,0,none⟩),.slice none 0 0,.int .i64 0,.int .i64 0]/\aL w' mb 200 [sv,iv,.map (some nb),.bool back]) mixed (by kernel_rfl) ⟨hB.drew,Yn.drew⟩ ?_;push_cast -dsimp[d1,d2];refine⟨λbE h=>by rw[h.1.cell (o:=1) rfl];exact rfl,λbE h=>by rw[h.2.cell (o:=2) rfl];exact rfl,?_⟩;have pd:=dI w;refine aA (Em k bU nm hr (λb=>Z b\/b=mb\/B<=b) _ nb w.drew (hK.drew) (hN.below pd)) ?_;rintro r w1 ⟨hR,gU⟩;have Q7:Below w.heap.size w w1:=pd.trans (gU.mono (Nat.le_refl _));have z1:=Q7.size;unfold cZ at hR;rw[hs]at hR;obtain⟨kv,rfl,AD,HK⟩:=hR;have hkr:=eU hr bU hs;refine⟨⟨hB.below Q7 hB.lt,Yn.below Q7 Yn.lt⟩,?_⟩;obtain⟨ka,kc,rfl,hkc⟩:=AD.shape;push_cast -dsimp;have h1:=h.below Q7;have K2:=hM.below Q7;have k1:gM mb w w1:=gM.below Q7 (by omega);refine aF (OP h1 K2 qS s hkr _ (AD.weaken (λb hb=>h.own hM hX hb))) ?_ ?_
 ·rintro _ w2 ⟨hl,⟨c',i,Fl,hE,hlen,Ci,sk⟩,k2⟩;push_cast -dsimp;refine⟨⟨c',Fl,hE,by simp only[bF];exact hlen,?_⟩,k1.trans k2⟩;simp only[iC];refine⟨hlen,i,s,Ci,sk,λp=>?_⟩;unfold gi;constructor
  ·intro hp;exact⟨s,hs,hp⟩
  rintro⟨t,ht,hp⟩;rw[hs]at ht;cases ht;exact hp
 rintro ce w2 ⟨hl,ht,k2⟩;push_cast -dsimp;exact⟨by simp only[bF];omega,ht,k1.trans k2⟩
end Go.Proofs.YtemjejfpadnljaaGreatDoor
end
section
namespace Cae
theorem tE {nm:bZ}:∀{l:List aG},iW nm l=none↔∀x∈l,gx nm x=none
 | []=>by simp[iW]
 | x::l=>by
  rw[iW,List.forall_mem_cons,<-tE (l:=l)];cases gx nm x with
  | some e=>simp
  | none=>simp
theorem x8 {nm:bZ}:∀{l:List dG},gD nm l=none↔∀r∈l,gx nm r.before=none/\gx nm r.after=none
 | []=>by simp[gD]
 | r::l=>by
  rw[gD,List.forall_mem_cons,<-x8 (l:=l),Dz];cases gx nm r.before with
  | some e=>simp
  | none =>
   cases gx nm r.after with
   | some e=>simp
   | none=>simp
end Cae
end
section
namespace Go.Proofs.YtemjejfpadnljaaGreatDoor
open Go.Vc Go.Proofs Go.RowKit Cae
attribute [local irreducible] cg aa ag aX runK ar Sl Vc.Own vc aQ br a7
theorem U8 (vs:List Nat)(hl:vs.length<1000000000)(X:Nat->Prop)(v:Value)(w:World)(hv:Sl X 1 (En fi) w v vs) :
  ar Tryz.prog 136 [v] w λr w'=>Vc.Own w.heap.size 82 1 fi w' r vs/\Below w.heap.size w w':=by
 obtain⟨a,c,rfl,hc⟩:=hv.shape;refine aE Tryz.func136 rfl (by kernel_rfl) [2] rfl ?_;push_cast -dsimp(maxSteps:=4000000) [Tryz.ntmps136];cases a with
 | none =>
  have:vs=[]:=by
   cases vs with
   | nil=>rfl
   | cons y ys=>obtain⟨b,o,h,_⟩:=hv.get (i:=0) (x:=y) rfl;cases h
  subst this;push_cast -dsimp[aCC];exact⟨Vc.Own.nil (enc:=fi) _ _ (λ_=>rfl) _,Below.refl _ _⟩
 | some ad =>
  push_cast -dsimp[aCD];refine cG fb rfl rfl (by omega) ?_;intro w1 aV;have uN:=aV.own (base:=w.heap.size) (k:=1) (n:=0) (enc:=fi) (l:=[]) rfl rfl (λ_=>rfl) (Nat.le_refl _) (by omega);have ph:=aV.size;push_cast -dsimp;refine lh (base:=w.heap.size) (enc:=fi) (ys:=vs) fb uN (hv.below aV.below) (λn c h=>by cases h) mE (by simp only[List.length_nil];omega) (by omega) ?_;intro v' w2 lC C0 dt;rw[List.nil_append]at lC;push_cast -dsimp;exact⟨lC,aV.below.trans dt⟩
theorem aDM:nh .any:=by
 intro bU oV nm jJ hr B mb nb back X Z w c v h hX mJ hN hV qS;simp only[bC]at hV;obtain⟨xb,rfl,CI,hB⟩:=hV;have cI:=h.st;obtain⟨sv,iv,us,hM⟩:=cI;have aj:=h.lt;have hle:=h.le;have d0:w.cell? ⟨xb,0,none⟩=some (.int .i64 2):=hB.cell rfl;refine bG Tryz.func111 rfl (by kernel_rfl) [] rfl ?_;push_cast -dsimp(maxSteps:=4000000) [Tryz.ntmps111];push_cast -dsimp[d0];refine cG fI rfl rfl (by omega) ?_;intro w1 aV;have z1:=aV.size;have uN:Vc.Own w.heap.size 208 2 ay w1 (.slice (some ⟨w.heap.size,0,none⟩) 1 1) [((0:Int),(1114111:Int))]:=aV.own (by rfl) rfl (λ_=>rfl) (Nat.le_refl _) (by omega);have h1:=h.below aV.below;have K2:=hM.below aV.below;have k1:gM mb w w1:=gM.below aV.below (by omega);push_cast -dsimp;refine aF (OP h1 K2 qS [((0:Int),(1114111:Int))] (by decide) _ (?_:Sl _ 2 (En ay) w1 _ [((0:Int),(1114111:Int))])) ?_ ?_
 ·exact uN.sl.weaken (λb hb=>(h.own hM hX hb).2)
 ·rintro _ w2 ⟨hl,⟨c',i,Fl,hE,hlen,Ci,sk⟩,k2⟩;push_cast -dsimp;refine⟨⟨c',Fl,hE,by simp only[bF];exact hlen,?_⟩,k1.trans k2⟩;simp only[iC];exact⟨hlen,i,_,Ci,sk,λp hp0 HP=>by simp[ew];omega⟩
 rintro ce w2 ⟨hl,ht,k2⟩;push_cast -dsimp;exact⟨by simp only[bF];omega,ht,k1.trans k2⟩
theorem ZU:nh .gg:=by
 intro bU oV nm jJ hr B mb nb back X Z w c v h hX mJ hN hV qS;simp only[bC]at hV;obtain⟨xb,rfl,CI,hB⟩:=hV;have WU:=h.num;have d0:w.cell? ⟨xb,0,none⟩=some (.int .i64 3):=hB.cell rfl;refine bG Tryz.func111 rfl (by kernel_rfl) [] rfl ?_;push_cast -dsimp(maxSteps:=4000000) [Tryz.ntmps111];push_cast -dsimp[d0];refine aF (td h (by omega) ⟨4,0,0⟩) ?_ ?_
 ·rintro _ w1 ⟨hl,rfl,K2,k1⟩;push_cast -dsimp;refine⟨⟨_,K2,Ext.push c _,by simp[aD.push,bF],?_⟩,k1⟩;simp only[iC];refine⟨by simp[aD.push],?_⟩
  show (c.ins++[_])[c.ins.length]?=_
  rw[List.getElem?_append_right (Nat.le_refl _),Nat.sub_self];rfl
 rintro ce w1 ⟨hl,ht,k1⟩;push_cast -dsimp;exact⟨by simp only[bF];omega,ht,k1⟩
theorem aDN (l:List aG)(dA:∀y∈l,nh y):nh (.cat l):=by
 intro bU oV nm jJ hr B mb nb back X Z w c v h hX mJ hN hV qS;simp only[bI]at bU;simp only[gx]at jJ;have HQ:=tE.1 jJ;simp only[bC]at hV;obtain⟨xb,psv,vs,rfl,CI,hB,hs,hVl⟩:=hV;have hvl:=hVl.len;have CG:=ER (l:=l);have aNW:=CG.2.1;have cI:=h.st;obtain⟨sv,iv,us,hM⟩:=cI;have Yn:=hM.1;have aj:=h.lt;have hle:=h.le;obtain⟨pa,pc,rfl,aFa⟩:=hs.shape;have d0:w.cell? ⟨xb,0,none⟩=some (.int .i64 4):=hB.cell rfl;have d2:w.cell? ⟨xb,2,none⟩=some (.slice pa vs.length pc):=hB.cell rfl;refine bG Tryz.func111 rfl (by kernel_rfl) [] rfl ?_;push_cast -dsimp(maxSteps:=4000000) [Tryz.ntmps111];push_cast -dsimp[d0,d2];refine aA (U8 vs (by omega) _ _ w hs) ?_;rintro cv w1 ⟨hC,gU⟩;have z1:=gU.size;have hcb:=hC.block;have hV1:=aP.below hVl gU;have e3:w1.cell? ⟨mb,3,none⟩=some (.bool back):=(Yn.below gU Yn.lt).cell rfl;cases back with
 | false =>
  obtain⟨ca,cc,rfl⟩:=hC.slice;push_cast -dsimp[e3];have Vw:=gU;have zS:=Vw.size;have hS:=h.below Vw;have kS:gM mb w (w1):=gM.below Vw (by omega);have hwS:∀i,Mw (w1) mb i->i<w.heap.size:=λi hi=>by
   rcases kS.own i hi with h1|h1
   ·exact(h.mw h1).2
   have h2:=(hS.mw hi).2;have hN0:∀j,Mw (w1) mb j->Mw w mb j:=λj hj=>by
    rcases hj with hj|⟨o,v,e1,e2⟩
    ·exact .inl hj
    refine .inr ⟨o,v,?_,e2⟩;rw[<-Vw.cell (p:=⟨mb,o,none⟩) (by show mb<_;omega)]
    exact e1
   exact(h.mw (hN0 i hi)).2
  have hNS:=hN.below Vw;have Vo:vs.length=l.length:=by simp[hvl]
  refine aK [8,63,64,65,66,67,68,69,70] (λz wx=>∃(i:Nat) (ci:aD),z 63=.int .i64 i/\i<=l.length/\Mk B mb nb false X wx ci/\Ext c ci/\ci.ins.length=c.ins.length+bh ((oG false l).take i)/\yQ (gi nm) ci false l i c.ins.length ci.ins.length/\gM mb (w1) wx) (λz _=>l.length-(intOf (z 63)).toNat) ?_ ?_
  ·exact⟨0,c,rfl,Nat.zero_le _,hS,Ext.refl c,by simp[bh],EE,gM.refl (by omega)⟩
  intro z wx hI;obtain⟨i,ci,h63,hi,Bt,Bs,Ig,ny,kx⟩:=hI;have RL:=kx.out hS;have zx:=kx.kept.size;push_cast -dsimp[h63];refine⟨λaj=>?_,λeo=>?_⟩
  ·obtain⟨y,hy,D5,_,_⟩:=ah (l:=oG false l) (i:=i) (by rw[uk];omega);have hyl:y∈l:=by unfold oG at D5;split at D5<;>first|exact List.mem_reverse.1 D5|exact D5
   obtain⟨u,hu,hVy⟩:=aP.nth (hV1) hy;have hVx:bC (λb=>Z b\/b=mb\/B<=b) wx (bw u) y:=bC.mono RL (λ_ h=>.inr h) (λ_ h=>h) hVy;have hNx:fz (λb=>Z b\/b=mb\/B<=b) wx nb nm:=fz.kept hNS RL (λ_ h=>.inr h) (λh=>by rcases h with h|h<;>omega) (λ_ h=>h);obtain⟨b1,o,rfl,_,aU⟩:=(Sl.kept (hC.sl) kx.kept (λj hj=>hwS j hj)).get hu;have c0:wx.cell? ⟨b1,o+i,none⟩=some (.pointer (some ⟨u,0,none⟩)):=by simpa[fi,bw] using aU 0 _ rfl
   have iQ:=zN (oG false l) i hy;have hco:bh (oG false l)=bh l:=by unfold oG;split<;>first|exact iK l|rfl
   push_cast -dsimp[c0];refine⟨⟨by omega,by omega⟩,?_⟩;refine aF (dA y hyl (iu bU hyl) (by have:=CG.2.2 y hyl;omega) nm (HQ y hyl) hr B mb nb false X Z wx ci _ Bt (λb hb=>by have:=hX b hb;exact⟨this.1,by omega⟩) mJ hNx hVx (by have:=Bs.sum;omega)) ?_ ?_
   ·rintro _ wy ⟨⟨cy,Zu,N6,hly,pT⟩,ky⟩;push_cast -dsimp;refine⟨⟨by omega,by omega⟩,⟨i+1,cy,rfl,by omega,Zu,Bs.trans N6,by rw[hly,Ig,iQ.2];omega,ED hy (EC (N6.same (Nat.le_refl _)) ny) pT,kx.trans ky⟩,by rw[h63];simp only[intOf];omega⟩
   rintro ce wy ⟨od,ht,ky⟩;push_cast -dsimp;exact⟨by simp only[bF];omega,ht,(kS.trans kx).trans ky⟩
  have I6:i=l.length:=by omega
  subst I6;rw[List.take_of_length_le (by rw[uk];exact Nat.le_refl _)]at Ig;have hco:bh (oG false l)=bh l:=by unfold oG;split<;>first|exact iK l|rfl
  exact⟨⟨ci,Bt,Bs,by simp only[bF];omega,Jk.1 ny⟩,kS.trans kx⟩
 | true =>
  push_cast -dsimp[e3];refine aA (M7 vs _ cv w1 (by omega) hC (by omega)) ?_;rintro _ w2 ⟨hD,jI⟩;have dt:Below w.heap.size w w2:=gU.trans (jI.below (by omega) (λi h=>(hcb i h).1));have p5:aP (λb=>Z b\/b=mb\/B<=b) w2 vs.reverse l.reverse:=aP.reverse (hVl.below dt);obtain⟨ca,cc,rfl⟩:=hD.slice;push_cast -dsimp;have Vw:=dt;have zS:=Vw.size;have hS:=h.below Vw;have kS:gM mb w (w2):=gM.below Vw (by omega);have hwS:∀i,Mw (w2) mb i->i<w.heap.size:=λi hi=>by
   rcases kS.own i hi with h1|h1
   ·exact(h.mw h1).2
   have h2:=(hS.mw hi).2;have hN0:∀j,Mw (w2) mb j->Mw w mb j:=λj hj=>by
    rcases hj with hj|⟨o,v,e1,e2⟩
    ·exact .inl hj
    refine .inr ⟨o,v,?_,e2⟩;rw[<-Vw.cell (p:=⟨mb,o,none⟩) (by show mb<_;omega)]
    exact e1
   exact(h.mw (hN0 i hi)).2
  have hNS:=hN.below Vw;have Vo:vs.reverse.length=l.length:=by simp[hvl]
  refine aK [8,63,64,65,66,67,68,69,70] (λz wx=>∃(i:Nat) (ci:aD),z 63=.int .i64 i/\i<=l.length/\Mk B mb nb true X wx ci/\Ext c ci/\ci.ins.length=c.ins.length+bh ((oG true l).take i)/\yQ (gi nm) ci true l i c.ins.length ci.ins.length/\gM mb (w2) wx) (λz _=>l.length-(intOf (z 63)).toNat) ?_ ?_
  ·exact⟨0,c,rfl,Nat.zero_le _,hS,Ext.refl c,by simp[bh],EE,gM.refl (by omega)⟩
  intro z wx hI;obtain⟨i,ci,h63,hi,Bt,Bs,Ig,ny,kx⟩:=hI;have RL:=kx.out hS;have zx:=kx.kept.size;push_cast -dsimp[h63];refine⟨λaj=>?_,λeo=>?_⟩
  ·obtain⟨y,hy,D5,_,_⟩:=ah (l:=oG true l) (i:=i) (by rw[uk];omega);have hyl:y∈l:=by unfold oG at D5;split at D5<;>first|exact List.mem_reverse.1 D5|exact D5
   obtain⟨u,hu,hVy⟩:=aP.nth (p5) hy;have hVx:bC (λb=>Z b\/b=mb\/B<=b) wx (bw u) y:=bC.mono RL (λ_ h=>.inr h) (λ_ h=>h) hVy;have hNx:fz (λb=>Z b\/b=mb\/B<=b) wx nb nm:=fz.kept hNS RL (λ_ h=>.inr h) (λh=>by rcases h with h|h<;>omega) (λ_ h=>h);obtain⟨b1,o,rfl,_,aU⟩:=(Sl.kept (hD.sl) kx.kept (λj hj=>hwS j hj)).get hu;have c0:wx.cell? ⟨b1,o+i,none⟩=some (.pointer (some ⟨u,0,none⟩)):=by simpa[fi,bw] using aU 0 _ rfl
   have iQ:=zN (oG true l) i hy;have hco:bh (oG true l)=bh l:=by unfold oG;split<;>first|exact iK l|rfl
   push_cast -dsimp[c0];refine⟨⟨by omega,by omega⟩,?_⟩;refine aF (dA y hyl (iu bU hyl) (by have:=CG.2.2 y hyl;omega) nm (HQ y hyl) hr B mb nb true X Z wx ci _ Bt (λb hb=>by have:=hX b hb;exact⟨this.1,by omega⟩) mJ hNx hVx (by have:=Bs.sum;omega)) ?_ ?_
   ·rintro _ wy ⟨⟨cy,Zu,N6,hly,pT⟩,ky⟩;push_cast -dsimp;refine⟨⟨by omega,by omega⟩,⟨i+1,cy,rfl,by omega,Zu,Bs.trans N6,by rw[hly,Ig,iQ.2];omega,ED hy (EC (N6.same (Nat.le_refl _)) ny) pT,kx.trans ky⟩,by rw[h63];simp only[intOf];omega⟩
   rintro ce wy ⟨od,ht,ky⟩;push_cast -dsimp;exact⟨by simp only[bF];omega,ht,(kS.trans kx).trans ky⟩
  have I6:i=l.length:=by omega
  subst I6;rw[List.take_of_length_le (by rw[uk];exact Nat.le_refl _)]at Ig;have hco:bh (oG true l)=bh l:=by unfold oG;split<;>first|exact iK l|rfl
  exact⟨⟨ci,Bt,Bs,by simp only[bF];omega,Jk.1 ny⟩,kS.trans kx⟩
theorem Mk.patch {B mb nb:Nat}{back:Bool}{X:Nat->Prop}{w w':World}{c:aD}{sv iv:Value}{us:List SV}{g k:Nat}{y:I3}(h:Mk B mb nb back X w c)(hM:MkB B mb nb back X w c sv iv us)(hg:iv.ownBlock=some g)(hO:Vc.Own B 164 3 bN w' iv (c.ins.set k y))(hk:Kept (·=g) w w') :
  Mk B mb nb back X w' ⟨c.sets,c.ins.set k y⟩/\gM mb w w':=by
 obtain⟨hB,wZ,jS,uQ,ft,gY,lQ,pq⟩:=hM;have hgm:mb≠g:=λe=>gY (by rw[hg,e]);have oS:=hB.kept hk (λhh=>hgm hh);have aEh:=wZ.aJ hk (λi hi hh=>lQ i hi (by rw[hg,hh]));have hz:=hk.size;refine⟨⟨⟨sv,iv,us,oS,aEh,hO,uQ,ft,gY,lQ,λi u s h1 h2=>(pq i u s h1 h2).kept hk (λi hi=>.inr (.inr (.inr (by rw[hg,hi]))))⟩,h.lt,by have:=h.le;omega,h.few,by rw[List.length_set];exact h.num,by rw[List.length_set];exact h.sum⟩,⟨hk.weaken (λi _ hi=>(eO hB).2 (.inr (.inr (by rw[hg,hi])))),λi hi=>?_⟩⟩
 have:=(eO oS).1 hi;exact .inl ((eO hB).2 this)
theorem Mk.off {B mb nb:Nat}{back:Bool}{X:Nat->Prop}{w:World}{c:aD}(h:Mk B mb nb back X w c){α:Type}{base k:Nat}{e:TypeId}{enc:α->List Value}{v:Value}{l:List α}(hO:Vc.Own base e k enc w v l)(h1:e≠139)(h2:e≠164)(hb:mb<base):∀g,v.ownBlock=some g->¬Mw w mb g:=by
 intro g hg hm;obtain⟨sv,iv,us,hB,wZ,jS,_⟩:=h.st;rcases(eO hB).1 hm with hm|hm|hm
 ·have:=hO.block g hg;omega
 ·exact qh wZ hO (λe=>h1 e.symm) g hm hg
 exact qh jS hO (λe=>h2 e.symm) g hm hg
theorem Mk.iZ {B mb nb:Nat}{back:Bool}{X X':Nat->Prop}{w:World}{c:aD}(h:Mk B mb nb back X w c)(hX:∀b,X' b->X b):Mk B mb nb back X' w c:=by
 obtain⟨sv,iv,us,hB,wZ,jS,uQ,ft,gY,lQ,pq⟩:=h.st;exact⟨⟨sv,iv,us,hB,wZ,jS,uQ,ft,gY,lQ,λi u s h1 h2=>(pq i u s h1 h2).weaken (λb hb=>hb.imp (hX b) id)⟩,h.lt,h.le,h.few,h.num,h.sum⟩
theorem Mk.Y4 {B mb nb:Nat}{back:Bool}{X:Nat->Prop}{w w':World}{c:aD}{ov ov':Value}(h:Mk B mb nb back (λb=>X b\/ov.ownBlock=some b) w c)(ho:∀g,ov.ownBlock=some g->¬Mw w mb g)(hk:Kept (λj=>ov.ownBlock=some j) w w')(hn:∀g,ov'.ownBlock=some g->ov.ownBlock=some g\/w.heap.size<=g) :
  Mk B mb nb back (λb=>X b\/ov'.ownBlock=some b) w' c:=by
 obtain⟨sv,iv,us,hB,wZ,jS,uQ,ft,gY,lQ,pq⟩:=h.st;have hz:=hk.size;refine⟨⟨sv,iv,us,hB.kept hk (λhh=>ho _ hh ((eO hB).2 (.inl rfl))),wZ.aJ hk (λg hg hh=>ho g hh ((eO hB).2 (.inr (.inl hg)))),jS.aJ hk (λg hg hh=>ho g hh ((eO hB).2 (.inr (.inr hg)))),uQ,ft,gY,lQ,λi u s h1 h2=>?_⟩,h.lt,by have:=h.le;omega,h.few,h.num,h.sum⟩;refine(pq i u s h1 h2).OM (λ_=>by simp[ay]) hk (λi hi=>.inl (.inr hi)) (λb hb=>?_);rcases hb with (hb|hb)|hb|hb|hb
 ·exact .inl (.inl (.inl hb))
 ·rcases hn b hb with h3|h3
  ·exact .inl (.inl (.inr h3))
  exact .inr h3
 ·exact .inl (.inr (.inl hb))
 ·exact .inl (.inr (.inr (.inl hb)))
 exact .inl (.inr (.inr (.inr hb)))
theorem gM.Y4 {mb:Nat}{w w1 w2:World}(h:gM mb w w1)(hk:Kept (λi=>w.heap.size<=i) w1 w2)(aj:mb<w.heap.size):gM mb w w2 :=
 ⟨h.kept.trans hk (λi hi hm=>by omega),λi hi=>h.own i (by
  rcases hi with hi|⟨o,v,e1,e2⟩
  ·exact .inl hi
  refine .inr ⟨o,v,?_,e2⟩;have hb:=hk.block mb (by have:=h.kept.size;omega) (by omega);have:w2.cell? ⟨mb,o,none⟩=w1.cell? ⟨mb,o,none⟩:=by simp only[World.cell?,hb]
  rw[<-this];exact e1)⟩
theorem Ext.set {a b:aD}{k:Nat}{y:I3}(h:Ext a b)(hk:a.ins.length<=k):Ext a ⟨b.sets,b.ins.set k y⟩:=⟨λj x hx=>by
 show (b.ins.set k y)[j]?=some x
 have hj:=(List.getElem?_eq_some_iff.1 hx).1;rw[List.getElem?_set,if_neg (by omega)];exact h.ins j x hx,h.sets,by have:=h.sum;simp only[List.length_set];omega⟩
theorem eK.set {a b:aD}{p q k:Nat}{y:I3}(h:eK a b p q)(hk:k<p\/q<=k):eK a ⟨b.sets,b.ins.set k y⟩ p q:=⟨λj h1 h2=>by
 show (b.ins.set k y)[j]?=_
 rw[List.getElem?_set,if_neg (by omega)];exact h.1 j h1 h2,h.2⟩
theorem eK.push {a b:aD}{p q:Nat}{x:I3}(h:eK a b p q)(hq:q<=b.ins.length):eK a (aD.push b x) p q:=⟨λj h1 h2=>by
 show (b.ins++[x])[j]?=_
 rw[List.getElem?_append_left (by omega)];exact h.1 j h1 h2,h.2⟩
theorem rR (c:aD)(x:I3):(aD.push c x).ins[c.ins.length]?=some x:=by
 show (c.ins++[x])[c.ins.length]?=_
 rw[List.getElem?_append_right (Nat.le_refl _),Nat.sub_self];rfl
theorem oH (c:aD)(x:I3):(aD.push c x).ins.length=c.ins.length+1:=by simp[aD.push]
theorem aDL (l:List aG)(cW:l≠[])(dA:∀y∈l,nh y):∀(bU:cQ l) (oV:∀y∈l,wd y<=100000) (HQ:l.length<=100000) (nm:bZ) (jJ:∀y∈l,gx nm y=none) (hr:jL nm) (B mb nb:Nat) (back:Bool) (X Z:Nat->Prop) (w:World) (c:aD) (v:Value) (vs:List Nat) (h:Mk B mb nb back X w c) (hX:∀b,X b->(Z b\/b=mb\/B<=b)/\b<w.heap.size) (mJ:nb<mb) (hN:fz (λb=>Z b\/b=mb\/B<=b) w nb nm) (hs:Sl (λb=>Z b\/b=mb\/B<=b) 1 (En fi) w v vs) (hV:aP (λb=>Z b\/b=mb\/B<=b) w vs l) (qS:c.sets.length<=c.ins.length),
  xl Tryz.prog 138 [.pointer (some ⟨mb,0,none⟩),v] w
  (λr w'=>(∃c',Mk B mb nb back X w' c'/\Ext c c'/\c'.ins.length=c.ins.length+fG l/\lJ (gi nm) c' back l c.ins.length c'.ins.length)/\gM mb w w')
  (λce w'=>2000<c.ins.length+fG l/\Kp 4 ce/\gM mb w w'):=by
 intro bU oV HQ nm jJ hr B mb nb back X Z w c v vs h hX mJ hN hs hV qS;have hvl:=hV.len;have aj:=h.lt;have hle:=h.le;obtain⟨pa,pc,rfl,aFa⟩:=hs.shape;have aJe:0<l.length:=List.length_pos_iff.2 cW;refine bG Tryz.func138 rfl (by kernel_rfl) [] rfl ?_;push_cast -dsimp(maxSteps:=4000000) [Tryz.ntmps138];refine aK [4,5,6,7,12,13,14,15,16,17,18,19,20,21,22,23,24,25,26,27,28,29,30,31,32,33,34,35,36,37,38,39,40,41,42,43,44,45,46,47,48,49,50,51,52,53,54,55,56,57] (λz wx=>∃(i:Nat) (ci:aD) (js:List Nat) (ov:Value),z 12=.int .i64 i/\z 4=ov/\i<l.length/\Mk B mb nb back (λb=>X b\/ov.ownBlock=some b) wx ci/\Ext c ci/\ci.ins.length+fG (l.drop i)=c.ins.length+fG l/\lu (gi nm) ci back (l.take i) c.ins.length js ci.ins.length/\js.length=i/\Vc.Own w.heap.size 3 1 bT wx ov js/\gM mb w wx) (λz _=>l.length-(intOf (z 12)).toNat) ?_ ?_
 ·exact⟨0,c,[],_,rfl,rfl,aJe,h.iZ (λb hb=>hb.elim id (λh=>by cases h)),Ext.refl c,by simp,by simp[lu],rfl,Vc.Own.nil (enc:=bT) _ _ (λ_=>rfl) _,gM.refl (by omega)⟩
 intro z wx hI;obtain⟨i,ci,js,ov,CU,h4,hi,Bt,Bs,Ig,hJx,hjl,QV,kx⟩:=hI;have RL:=kx.out h;have zx:=kx.kept.size;have fS:=QV.block;have aAH:=Bt.off QV (by decide) (by decide) (by omega);obtain⟨y,hy,D5,hyd,hyt⟩:=ah (l:=l) (i:=i) hi;obtain⟨u,hu,hVy⟩:=aP.nth hV hy;obtain⟨b1,o,rfl,_,aU⟩:=(hs.kept RL (λ_ h=>.inr h)).get hu;have c0:wx.cell? ⟨b1,o+i,none⟩=some (.pointer (some ⟨u,0,none⟩)):=by simpa[fi,bw] using aU 0 _ rfl
 have iQ:fG (l.drop i)=if l.drop (i+1)=[] then bF y else bF y+2+fG (l.drop (i+1)):=by rw[hyd,fG]
 have hXx:∀b,(X b\/ov.ownBlock=some b)->(Z b\/b=mb\/B<=b)/\b<wx.heap.size:=λb hb=>by
  rcases hb with hb|hb
  ·have:=hX b hb;exact⟨this.1,by omega⟩
  have:=fS b hb;exact⟨.inr (.inr (by omega)),this.2⟩
 have ny:ci.sets.length<=ci.ins.length:=by have:=Bs.sum;omega
 have K8:∀(w1:World),gM mb wx w1->fz (λb=>Z b\/b=mb\/B<=b) w1 nb nm/\bC (λb=>Z b\/b=mb\/B<=b) w1 (bw u) y:=λw1 k1=>by
  have ko:=RL.trans (k1.out Bt) (λ_ _ h=>h);exact⟨fz.kept hN ko (λ_ h=>.inr h) (λh=>by rcases h with h|h<;>omega) (λ_ h=>h),bC.mono ko (λ_ h=>.inr h) (λ_ h=>h) hVy⟩
 push_cast -dsimp[CU,h4,c0];refine⟨λaTl=>⟨⟨by omega,by omega⟩,⟨by omega,by omega⟩,λAE=>?_,λhnl=>?_⟩,λeo=>by omega⟩
 ·have aNw:i+1=l.length:=by omega
  have hd0:l.drop (i+1)=[]:=List.drop_eq_nil_of_le (by omega);rw[if_pos hd0]at iQ;refine aF (dA y D5 (iu bU D5) (oV y D5) nm (jJ y D5) hr B mb nb back _ Z wx ci _ Bt hXx mJ (K8 wx (gM.refl (by omega))).1 (K8 wx (gM.refl (by omega))).2 ny) ?_ ?_
  ·rintro _ wy ⟨⟨cy,Zu,N6,hly,pT⟩,ky⟩;have zy:=ky.kept.size;have hOy:=QV.aJ ky.kept (λg hg hm=>aAH g hg hm);have hJy:lu (gi nm) cy back (l.take i) c.ins.length js ci.ins.length:=wH _ _ _ _ (N6.same (Nat.le_refl _)) hJx;have aET:=(uz _ _ _ _ hJy).2;obtain⟨oa,oc,rfl⟩:=QV.slice;have e:∃e,e=cy.ins.length:=⟨_,rfl⟩;obtain⟨e,he⟩:=e;have hXy:∀b,(X b\/(Value.slice oa js.length oc).ownBlock=some b)->(Z b\/b=mb\/B<=b)/\b<wy.heap.size:=λb hb=>by
    have:=hXx b hb;exact⟨this.1,by omega⟩
   push_cast -dsimp;refine aK [9,60,61,62,63,64,65,66,67,68,69,70,71,72,73,74] (λz wz=>∃(t:Nat) (ct:aD),z 60=.int .i64 t/\t<=js.length/\Mk B mb nb back (λb=>X b\/(Value.slice oa js.length oc).ownBlock=some b) wz ct/\jz cy ct (js.take t) (λx=>⟨x.op,(e:Int),x.b⟩)/\Vc.Own w.heap.size 3 1 bT wz (.slice oa js.length oc) js/\gM mb w wz) (λz _=>js.length-(intOf (z 60)).toNat) ?_ ?_
   ·exact⟨0,cy,rfl,Nat.zero_le _,Zu,jz.nil cy _,hOy,kx.trans ky⟩
   intro z wz hI;obtain⟨t,ct,h60,ht,IQ,vg,hOz,kz⟩:=hI;have zz:=kz.kept.size;have WX:=IQ.off hOz (by decide) (by decide) (by omega);have hlz:=vg.len;push_cast -dsimp[h60];refine⟨λIe=>?_,λeo=>?_⟩
   ·obtain⟨k,hk,vK,_,hkt⟩:=ah (l:=js) (i:=t) (by omega);obtain⟨bj,oj,hej,_,qL⟩:=hOz.sl.get hk;cases hej;have cj:wz.cell? ⟨bj,oj+t,none⟩=some (.int .i64 (k:Int)):=by simpa[bT] using qL 0 _ rfl
    have WR:k<ct.ins.length:=by have:=aET k vK;have:=hly;omega
    obtain⟨xk,TU,_⟩:=ah (l:=ct.ins) (i:=k) WR;push_cast -dsimp[cj];refine⟨⟨by omega,by omega⟩,?_⟩;have fk:=(IQ).st;obtain⟨Si,ivP,usP,nt⟩:=fk;have gu:=nt.2.2.1;obtain⟨iaP,vv,rfl⟩:=gu.slice;have Qf:=gu.sl.get TU;obtain⟨gP,oP,eP,_,_⟩:=Qf;subst eP;have vt:oP=0:=Vc.Own.ZG gu;subst vt;have Qj:=(List.getElem?_eq_some_iff.1 TU).1;have D2:=(IQ).num;have QK:(wz).drew.cell? ⟨mb,1,none⟩=some (.slice (some ⟨gP,0,none⟩) (ct).ins.length vv):=nt.1.drew.cell rfl;refine dU (λw'=>aL w' mb 200 [Si,.slice (some ⟨gP,0,none⟩) (ct).ins.length vv,.map (some nb),.bool back]) mixed (by kernel_rfl) (by simp) nt.1.drew ?_;push_cast -dsimp[QK];refine⟨λbE h=>by rw[h.cell (o:=1) rfl];exact rfl,?_⟩;have gv:=dI (wz);refine aA (ob ((IQ).below gv)) ?_;rintro _ _ ⟨rfl,rfl⟩;refine⟨nt.1.drew,?_⟩;push_cast -dsimp;refine⟨⟨by omega,by omega⟩,?_⟩;have vZ:Vc.Own B 164 3 bN (wz).drew (.slice (some ⟨gP,0,none⟩) (ct).ins.length vv) (ct).ins:=gu.aJ ((Kept.refl (λ_=>False) (wz)).drew) (λ_ _ h=>h);refine fr (i:=k) (f:=1) (x:=xk) (y:=(⟨xk.op,(ct.ins.length:Int),xk.b⟩:I3)) vZ rfl TU (by decide) rfl rfl ?_;intro wP QT Qh zP;have Qn:=Mk.patch ((IQ).below gv) (nt.below gv) rfl QT Qh;obtain⟨p4,jf⟩:=Qn;have fk:gM mb (wz) wP:=(gM.below gv (by have:=(IQ).lt;have:=(IQ).le;omega)).trans jf;refine⟨trivial,?_⟩;push_cast -dsimp;have hTn:=jz.step (g:=λx=>⟨x.op,(e:Int),x.b⟩) (λx=>rfl) vg TU;rw[<-hkt]at hTn;have hec:(e:Int)=(ct.ins.length:Int):=by rw[he,hlz]
    rw[hec]at hTn vg;refine⟨⟨by omega,by omega⟩,⟨t+1,_,rfl,by omega,p4,by rw[hec];exact hTn,hOz.aJ fk.kept (λg hg hm=>WX g hg hm),kz.trans fk⟩,by rw[h60];simp only[intOf];omega⟩
   have Nt:t=js.length:=by omega
   rw[Nt,List.take_length]at vg;have WS:l.take i++[y]=l:=by rw[<-hyt,List.take_of_length_le (by omega)]
   have hA:lJ (gi nm) ct back l c.ins.length e:=by
    have:=YL (y:=y) (l.take i) c.ins.length ci.ins.length e js vg hJy (by rw[he];exact pT) (λk hk=>by have:=aET k hk;omega);rw[WS]at this;exact this
   have aAo:∀k∈js,c.ins.length<=k:=λk hk=>by have:=(aET k hk).1;omega
   refine⟨⟨ct,IQ.iZ (λb hb=>.inl hb),⟨λk x hx=>?_,λk s hs=>?_,?_⟩,by rw[hlz];omega,by rw[hlz,<-he];exact hA⟩,kz⟩
   ·have hk:=(List.getElem?_eq_some_iff.1 hx).1;rw[vg.ins k,if_neg (λhm=>by have:=aAo k hm;omega)];exact(Bs.trans N6).ins k x hx
   ·rw[vg.sets];exact(Bs.trans N6).sets k s hs
   have:=(Bs.trans N6).sum;rw[vg.sets,hlz];exact this
  rintro ce wy ⟨od,ht,ky⟩;push_cast -dsimp;exact⟨by omega,ht,kx.trans ky⟩
 ·have hd1:l.drop (i+1)≠[]:=by intro hd;have:=congrArg List.length hd;simp at this;omega
  rw[if_neg hd1]at iQ;refine aF (td Bt (by omega) ⟨2,0,0⟩) ?_ ?_
  ·rintro _ w1 ⟨xB,rfl,K2,k1⟩;have z1:=k1.kept.size;have Ke:=rR ci ⟨2,0,0⟩;have hn1:=oH ci ⟨2,0,0⟩;push_cast -dsimp;have fk:=(K2).st;obtain⟨Si,ivP,usP,nt⟩:=fk;have gu:=nt.2.2.1;obtain⟨iaP,vv,rfl⟩:=gu.slice;have Qf:=gu.sl.get Ke;obtain⟨gP,oP,eP,_,_⟩:=Qf;subst eP;have vt:oP=0:=Vc.Own.ZG gu;subst vt;have Qj:=(List.getElem?_eq_some_iff.1 Ke).1;have D2:=(K2).num;have QK:(w1).drew.cell? ⟨mb,1,none⟩=some (.slice (some ⟨gP,0,none⟩) ((aD.push ci ⟨2,0,0⟩)).ins.length vv):=nt.1.drew.cell rfl;refine dU (λw'=>aL w' mb 200 [Si,.slice (some ⟨gP,0,none⟩) ((aD.push ci ⟨2,0,0⟩)).ins.length vv,.map (some nb),.bool back]) mixed (by kernel_rfl) (by simp) nt.1.drew ?_;push_cast -dsimp[QK];refine⟨λbE h=>by rw[h.cell (o:=1) rfl];exact rfl,?_⟩;have gv:=dI (w1);refine aA (ob ((K2).below gv)) ?_;rintro _ _ ⟨rfl,rfl⟩;refine⟨nt.1.drew,?_⟩;push_cast -dsimp;refine⟨⟨by omega,by omega⟩,?_⟩;have vZ:Vc.Own B 164 3 bN (w1).drew (.slice (some ⟨gP,0,none⟩) ((aD.push ci ⟨2,0,0⟩)).ins.length vv) ((aD.push ci ⟨2,0,0⟩)).ins:=gu.aJ ((Kept.refl (λ_=>False) (w1)).drew) (λ_ _ h=>h);refine fr (i:=ci.ins.length) (f:=1) (x:=(⟨2,0,0⟩:I3)) (y:=(⟨2,((aD.push ci ⟨2,0,0⟩).ins.length:Int),0⟩:I3)) vZ rfl Ke (by decide) rfl rfl ?_;intro wP QT Qh zP;have Qn:=Mk.patch ((K2).below gv) (nt.below gv) rfl QT Qh;obtain⟨p4,jf⟩:=Qn;have fk:gM mb (w1) wP:=(gM.below gv (by have:=(K2).lt;have:=(K2).le;omega)).trans jf;refine⟨trivial,?_⟩;push_cast -dsimp
   have Fz:∃c1:aD,c1=⟨(aD.push ci ⟨2,0,0⟩).sets,(aD.push ci ⟨2,0,0⟩).ins.set ci.ins.length ⟨2,((aD.push ci ⟨2,0,0⟩).ins.length:Int),0⟩⟩:=⟨_,rfl⟩;obtain⟨c1,Fz⟩:=Fz;rw[<-Fz]at p4;have aNC:c1.ins.length=ci.ins.length+1:=by rw[Fz];simp[aD.push]
   have Nk:c1.ins[ci.ins.length]?=some ⟨2,((ci.ins.length+1:Nat):Int),0⟩:=by
    rw[Fz]
    show ((aD.push ci ⟨2,0,0⟩).ins.set ci.ins.length _)[ci.ins.length]?=_
    rw[List.getElem?_set,if_pos rfl,if_pos (by omega),hn1]
   have hE1:Ext ci c1:=by rw[Fz];exact(Ext.push ci _).set (Nat.le_refl _)
   have W4:c1.sets=ci.sets:=by rw[Fz];rfl
   have kP:gM mb wx wP:=k1.trans fk;have zP':=kP.kept.size;have aI5:=K8 wP kP;refine aF (dA y D5 (iu bU D5) (oV y D5) nm (jJ y D5) hr B mb nb back _ Z wP c1 _ p4 (λb hb=>by have:=hXx b hb;exact⟨this.1,by omega⟩) mJ aI5.1 aI5.2 (by rw[W4];omega)) ?_ ?_
   ·rintro _ wq ⟨⟨c2,Fl,hE2,od,gY⟩,k2⟩;have kq:=kP.trans k2;have zq:=kq.kept.size;push_cast -dsimp;have aQE:c2.sets.length<=c2.ins.length:=by have:=hE2.sum;rw[W4]at this;omega
    refine aF (td Fl (by omega) ⟨3,0,0⟩) ?_ ?_
    ·rintro _ w3 ⟨Nn,rfl,Fm,k3⟩;have kx3:=kq.trans k3;have z3:=kx3.kept.size;have K3:=QV.aJ kx3.kept (λg hg hm=>aAH g hg hm);have aQm:=Fm.off K3 (by decide) (by decide) (by omega);have hn3:=oH c2 ⟨3,0,0⟩;push_cast -dsimp;refine cG bm rfl rfl (by omega) ?_;intro w4 ae;have z4:=ae.size;have hM4:=Fm.below ae.below;have yY:=K3.new ae;have aJn:=hM4.off yY (by decide) (by decide) (by omega);push_cast -dsimp;refine aW (base:=w.heap.size) [c2.ins.length] (enc:=bT) bm yY (by rfl) (λj u hu=>by rw[Nat.zero_add];exact ae.cell hu) (by simp[bT,Value.oneCell']) (by simp only[List.length_cons,List.length_nil];omega) (by omega) ?_;intro v5 w5 sC yD HO;have aEX:Kept (λj=>ov.ownBlock=some j) w4 w5:=Kept.grown yD (λ_ h=>h);have z5:=aEX.size;have CW:=hM4.Y4 aJn aEX HO;have kx5:gM mb w w5:=(kx.trans (kx3.trans (gM.below ae.below (by have:=Fm.lt;have:=Fm.le;omega)))).Y4 (aEX.weaken (λj _ h=>(fS j h).1)) (by omega);have WW:=CW.off sC (by decide) (by decide) (by omega);have CC:(aD.push c2 ⟨3,0,0⟩).ins[ci.ins.length]?=some ⟨2,((ci.ins.length+1:Nat):Int),0⟩:=(Ext.push c2 _).ins _ _ (hE2.ins _ _ Nk);push_cast -dsimp;have fk:=(CW).st;obtain⟨Si,ivP,usP,nt⟩:=fk;have gu:=nt.2.2.1;obtain⟨iaP,vv,rfl⟩:=gu.slice;have Qf:=gu.sl.get CC;obtain⟨gP,oP,eP,_,_⟩:=Qf;subst eP;have vt:oP=0:=Vc.Own.ZG gu;subst vt;have Qj:=(List.getElem?_eq_some_iff.1 CC).1;have D2:=(CW).num;have QK:(w5).drew.cell? ⟨mb,1,none⟩=some (.slice (some ⟨gP,0,none⟩) ((aD.push c2 ⟨3,0,0⟩)).ins.length vv):=nt.1.drew.cell rfl
     refine dU (λw'=>aL w' mb 200 [Si,.slice (some ⟨gP,0,none⟩) ((aD.push c2 ⟨3,0,0⟩)).ins.length vv,.map (some nb),.bool back]) mixed (by kernel_rfl) (by simp) nt.1.drew ?_;push_cast -dsimp[QK];refine⟨λbE h=>by rw[h.cell (o:=1) rfl];exact rfl,?_⟩;have gv:=dI (w5);refine aA (ob ((CW).below gv)) ?_;rintro _ _ ⟨rfl,rfl⟩;refine⟨nt.1.drew,?_⟩;push_cast -dsimp;refine⟨⟨by omega,by omega⟩,?_⟩;have vZ:Vc.Own B 164 3 bN (w5).drew (.slice (some ⟨gP,0,none⟩) ((aD.push c2 ⟨3,0,0⟩)).ins.length vv) ((aD.push c2 ⟨3,0,0⟩)).ins:=gu.aJ ((Kept.refl (λ_=>False) (w5)).drew) (λ_ _ h=>h);refine fr (i:=ci.ins.length) (f:=2) (x:=(⟨2,((ci.ins.length+1:Nat):Int),0⟩:I3)) (y:=(⟨2,((ci.ins.length+1:Nat):Int),((aD.push c2 ⟨3,0,0⟩).ins.length:Int)⟩:I3)) vZ rfl CC (by decide) rfl rfl ?_;intro wP QT Qh zP;have Qn:=Mk.patch ((CW).below gv) (nt.below gv) rfl QT Qh;obtain⟨p4,jf⟩:=Qn;have fk:gM mb (w5) wP:=(gM.below gv (by have:=(CW).lt;have:=(CW).le;omega)).trans jf;refine⟨trivial,?_⟩;push_cast -dsimp;have Qa:∃c4:aD,c4=⟨(aD.push c2 ⟨3,0,0⟩).sets,(aD.push c2 ⟨3,0,0⟩).ins.set ci.ins.length ⟨2,((ci.ins.length+1:Nat):Int),((aD.push c2 ⟨3,0,0⟩).ins.length:Int)⟩⟩:=⟨_,rfl⟩;obtain⟨c4,Qa⟩:=Qa;rw[<-Qa]at p4;have hn4:c4.ins.length=c2.ins.length+1:=by rw[Qa];simp[aD.push]
     have N5:Ext ci c4:=by rw[Qa];exact((hE1.trans hE2).trans (Ext.push c2 _)).set (Nat.le_refl _)
     have TO:c4.ins[ci.ins.length]?=some ⟨2,((ci.ins.length+1:Nat):Int),((c2.ins.length+1:Nat):Int)⟩:=by
      rw[Qa]
      show ((aD.push c2 ⟨3,0,0⟩).ins.set ci.ins.length _)[ci.ins.length]?=_
      rw[List.getElem?_set,if_pos rfl,if_pos (by omega),hn3]
     have hj4:c4.ins[c2.ins.length]?=some ⟨3,0,0⟩:=by
      rw[Qa]
      show ((aD.push c2 ⟨3,0,0⟩).ins.set ci.ins.length _)[c2.ins.length]?=_
      rw[List.getElem?_set,if_neg (by omega)];exact rR c2 _
     have hs4:eK c2 c4 (ci.ins.length+1) c2.ins.length:=by
      rw[Qa];exact eK.set (eK.push ((Ext.refl c2).same (Nat.le_refl _)) (Nat.le_refl _)) (.inl (by omega))
     have hJ4:lu (gi nm) c4 back (l.take (i+1)) c.ins.length (js++[c2.ins.length]) c4.ins.length:=by
      rw[hyt];refine Jj _ _ _ ci.ins.length _ _ _ (wH _ _ _ _ (N5.same (Nat.le_refl _)) hJx) ?_;simp only[lu];rw[aNC]at gY;exact⟨c2.ins.length,[],rfl,TO,dT _ _ _ hs4 gY,hj4,rfl,hn4.symm⟩
     have Fo:=sC.aJ fk.kept (λg hg hm=>WW g hg hm);exact⟨⟨by omega,by omega⟩,⟨i+1,c4,_,_,rfl,rfl,by omega,p4,Bs.trans N5,by omega,hJ4,by simp[hjl],Fo,kx5.trans fk⟩,by rw[CU];simp only[intOf];omega⟩
    rintro ce w3 ⟨Nn,ht,k3⟩;push_cast -dsimp;exact⟨by omega,ht,kx.trans (kq.trans k3)⟩
   rintro ce wq ⟨od,ht,k2⟩;push_cast -dsimp;exact⟨by omega,ht,kx.trans (kP.trans k2)⟩
  rintro ce w1 ⟨od,ht,k1⟩;push_cast -dsimp;exact⟨by omega,ht,kx.trans k1⟩
end Go.Proofs.YtemjejfpadnljaaGreatDoor
end
section
namespace Go.Vc
section
variable {P:Program}
def Up (id:Nat)(Q:EP)(M:List Nat)(t:Fr)(J:(Nat->Value)->World->Prop)(_:Ph (Q,t,J)):EP
 | .exit i,t',w'=>i=id/\t'=ov t M (at_ t')/\J (at_ t') w'
 | .panic c,t',w'=>Q (.panic c) t' w'
 | _,_,_=>False
theorem KZ {c:Code}{id:Nat}{t:Fr}{w:World}{Q:EP}{p q}(M:List Nat)(J:(Nat->Value)->World->Prop)(h1:cg P c (Up id Q M t J .mk) t w .mk)
  (h2:∀z w',J z w'->Q .normal (ov t M z) w'):cg P c (jc id Q p) t w q:=by
 refine K0 ?_ h1;intro e t' w' h;cases e<;>simp only[Up]at h
 case exit i =>
  obtain⟨rfl,ht,hJ⟩:=h;rw[wS,ht];exact h2 _ _ hJ
 case panic c=>exact h
theorem PW {id:Nat}{Q:EP}{M:List Nat}{t t':Fr}{w':World}{J:(Nat->Value)->World->Prop}(p):Up id Q M t J p (.exit id) t' w'=(t'=ov t M (at_ t')/\J (at_ t') w'):=by simp[Up]
theorem LM {id:Nat}{Q:EP}{M:List Nat}{t t':Fr}{w':World}{J:(Nat->Value)->World->Prop}(c)(p):Up id Q M t J p (.panic c) t' w'=Q (.panic c) t' w':=(rfl)
attribute [push_cast] PW LM
end
end Go.Vc
namespace Cae
theorem RD {S:Nat->Nat->Prop}{b:Nat}(hb:S b b):∀{n m a:Nat},n<=m->iterM S n a b->iterM S m a b
 | n,m,a,qP,h=>by
  obtain⟨d,rfl⟩:=Nat.le.dest qP;clear qP;induction d with
  | zero=>exact h
  | succ d ih=>exact ot.2 ⟨b,ih,hb⟩
end Cae
namespace Go.Proofs.YtemjejfpadnljaaGreatDoor
open Go.Vc Go.Proofs Go.RowKit Cae
attribute [local irreducible] cg aa ag aX runK ar Sl Vc.Own vc aQ br a7
theorem U5 (x:aG)(lo hi:Int)(hx:nh x)(bU:bI (.many x lo hi))(oV:wd x<=100000)(nm:bZ)(jJ:gx nm x=none)(hr:jL nm)(B mb nb:Nat)(back:Bool)(X Z:Nat->Prop)(w:World)(c:aD)(v:Value)(h:Mk B mb nb back X w c)(hX:∀b,X b->(Z b\/b=mb\/B<=b)/\b<w.heap.size)(mJ:nb<mb)(hN:fz (λb=>Z b\/b=mb\/B<=b) w nb nm)(hV:bC (λb=>Z b\/b=mb\/B<=b) w v (.many x lo hi))(qS:c.sets.length<=c.ins.length) :
  xl Tryz.prog 139 [.pointer (some ⟨mb,0,none⟩),v] w
  (λr w'=>(∃c',Mk B mb nb back X w' c'/\Ext c c'/\c'.ins.length=c.ins.length+bF (.many x lo hi)/\iC (gi nm) c' back (.many x lo hi) c.ins.length c'.ins.length)/\gM mb w w')
  (λce w'=>2000<c.ins.length+bF (.many x lo hi)/\Kp 4 ce/\gM mb w w'):=by
 have aj:=h.lt;have hle:=h.le;simp only[bI]at bU;obtain⟨aE6,aTy,aJd,aI7,hlh⟩:=bU;simp only[bC]at hV;obtain⟨xb,psv,u,rfl,CI,hB,hs,hVx⟩:=hV;obtain⟨pa,pc,rfl,aFa⟩:=hs.shape;obtain⟨b1,o,rfl,_,aU⟩:=hs.get (i:=0) (x:=u) rfl;have AF:∃n:Nat,lo=n:=⟨lo.toNat,by omega⟩;obtain⟨n,rfl⟩:=AF;have c0:w.cell? ⟨b1,o,none⟩=some (.pointer (some ⟨u,0,none⟩)):=by simpa[fi,bw] using aU 0 _ rfl
 have aIx:b1≠mb/\¬B<=b1:=by
  have h1:=hs.get (i:=0) (x:=u) rfl;obtain⟨b',o',e,cW,_⟩:=h1;cases e;exact⟨λe=>cW (.inr (.inl e)),λe=>cW (.inr (.inr e))⟩
 have Ia:∀w1,Kept (λb=>b=mb\/B<=b) w w1->aL w1 xb 158 [.int .i64 6,.pointer none,.slice (some ⟨b1,o,none⟩) 1 pc,.int .i64 n,.int .i64 hi]/\w1.cell? ⟨b1,o,none⟩=some (.pointer (some ⟨u,0,none⟩))/\fz (λb=>Z b\/b=mb\/B<=b) w1 nb nm/\bC (λb=>Z b\/b=mb\/B<=b) w1 (bw u) x:=λw1 k1 =>
  ⟨hB.kept k1 (λhh=>CI (.inr hh)),k1.cell c0 (λhh=>hh.elim aIx.1 aIx.2),fz.kept hN k1 (λ_ h=>.inr h) (λh=>by rcases h with h|h<;>omega) (λ_ h=>h),bC.mono k1 (λ_ h=>.inr h) (λ_ h=>h) hVx⟩
 have hlen:=λ(ci:aD) (a b:Nat)=>fN (has:=gi nm) (c:=ci) (back:=back) x a b;have d3:w.cell? ⟨xb,3,none⟩=some (.int .i64 (n:Int)):=hB.cell rfl;refine bG Tryz.func139 rfl (by kernel_rfl) [] rfl ?_;push_cast -dsimp(maxSteps:=4000000) [Tryz.ntmps139];push_cast -dsimp[d3];refine KZ [4,15,16,17,18,19,20,21,22,23,24,25,26,27,28,29,30,31] (λz wx=>∃(ci:aD),Mk B mb nb back X wx ci/\Ext c ci/\ci.ins.length=c.ins.length+n*bF x/\iterM (iC (gi nm) ci back x) n c.ins.length ci.ins.length/\gM mb w wx) ?_ ?_
 ·refine aK [4,15,16,17,18,19,20,21,22,23,24,25,26,27,28,29,30,31] (λz wx=>∃(t:Nat) (ci:aD),z 15=.int .i64 t/\t<=n/\Mk B mb nb back X wx ci/\Ext c ci/\ci.ins.length=c.ins.length+t*bF x/\iterM (iC (gi nm) ci back x) t c.ins.length ci.ins.length/\gM mb w wx) (λz _=>n-(intOf (z 15)).toNat) ?_ ?_
  ·exact⟨0,c,rfl,Nat.zero_le _,h,Ext.refl c,by simp,rfl,gM.refl (by omega)⟩
  intro z wx hI;obtain⟨t,ci,h15,ht,Bt,Bs,Ig,hix,kx⟩:=hI;have RL:=kx.out h;have zx:=kx.kept.size;obtain⟨ns,cx,hNx,hPx⟩:=Ia wx RL;push_cast -dsimp[h15];have ny:ci.sets.length<=ci.ins.length:=by have:=Bs.sum;omega
  have hXx:∀b,X b->(Z b\/b=mb\/B<=b)/\b<wx.heap.size:=λb hb=>by have:=hX b hb;exact⟨this.1,by omega⟩
  refine⟨λIe=>?_,λeo=>?_⟩
  ·have hmul:(t+1)*bF x<=n*bF x:=Nat.mul_le_mul_right _ (by omega);have Qq:(t+1)*bF x=t*bF x+bF x:=Nat.succ_mul _ _;refine aA (ob Bt) ?_;rintro _ w0 ⟨rfl,yL⟩;have yL:=yL.symm;subst yL;have e2:wx.cell? ⟨xb,2,none⟩=some (.slice (some ⟨b1,o,none⟩) 1 pc):=ns.cell rfl;push_cast -dsimp[e2,cx];refine aF (hx aE6 oV nm jJ hr B mb nb back X Z _ ci _ Bt hXx mJ hNx hPx ny) ?_ ?_
   ·rintro _ wy ⟨⟨cy,Zu,N6,hly,pT⟩,ky⟩;have hiy:iterM (iC (gi nm) cy back x) (t+1) c.ins.length cy.ins.length:=ot.2 ⟨ci.ins.length,lj (A:=c.ins.length) (B:=ci.ins.length) (λa b=>hlen ci a b) (λp q hp hq=>dT x p q ((N6.same (Nat.le_refl _)).sub hp hq)) _ _ _ (Nat.le_refl _) (Nat.le_refl _) hix,pT⟩;push_cast -dsimp;refine aA (ob Zu) ?_;rintro _ w0 ⟨rfl,yL⟩;have yL:=yL.symm;subst yL;push_cast -dsimp;refine⟨λheq=>?_,λcW=>?_⟩
    ·have h0:bF x=0:=by omega
     have cI:iC (gi nm) cy back x cy.ins.length cy.ins.length:=by
      have h1:=pT;have h2:ci.ins.length=cy.ins.length:=by omega
      rw[h2]at h1;exact h1
     exact⟨cy,Zu,Bs.trans N6,by rw[hly,Ig,h0];simp,RD cI (by omega) hiy,kx.trans ky⟩
    exact⟨⟨by omega,by omega⟩,⟨t+1,cy,rfl,by omega,Zu,Bs.trans N6,by rw[hly,Ig,Qq];omega,hiy,kx.trans ky⟩,by rw[h15];simp only[intOf];omega⟩
   rintro ce wy ⟨od,ht2,ky⟩;push_cast -dsimp;exact⟨by simp only[bF,Int.toNat_natCast];omega,ht2,kx.trans ky⟩
  have htn:t=n:=by omega
  subst htn;exact⟨ci,Bt,Bs,Ig,hix,kx⟩
 intro z w1 hJ;obtain⟨c1,K2,hE1,xB,Nh,k1⟩:=hJ;have k1o:=k1.out h;have z1:=k1.kept.size;obtain⟨oT,cx1,hN1,nu⟩:=Ia w1 k1o;have d4:w1.cell? ⟨xb,4,none⟩=some (.int .i64 hi):=oT.cell rfl;have ft:c1.sets.length<=c1.ins.length:=by have:=hE1.sum;omega
 have hX1:∀b,X b->(Z b\/b=mb\/B<=b)/\b<w1.heap.size:=λb hb=>by have:=hX b hb;exact⟨this.1,by omega⟩
 have iQ:bF (.many x (n:Int) hi)=n*bF x+if hi<0 then bF x+2 else (hi-n).toNat*(bF x+1):=by simp only[bF,Int.toNat_natCast]
 push_cast -dsimp[d4];refine⟨λIh=>?_,λyJ=>?_⟩
 ·rw[if_pos Ih]at iQ;refine aF (td K2 (by omega) ⟨2,0,0⟩) ?_ ?_
  ·rintro _ w2 ⟨od,rfl,Fl,k2⟩;have z2:=k2.kept.size;have y7:=rR c1 ⟨2,0,0⟩;have Yw:=oH c1 ⟨2,0,0⟩;push_cast -dsimp;have fk:=(Fl).st;obtain⟨Si,ivP,usP,nt⟩:=fk;have gu:=nt.2.2.1;obtain⟨iaP,vv,rfl⟩:=gu.slice;have Qf:=gu.sl.get y7;obtain⟨gP,oP,eP,_,_⟩:=Qf;subst eP;have vt:oP=0:=Vc.Own.ZG gu;subst vt;have Qj:=(List.getElem?_eq_some_iff.1 y7).1;have D2:=(Fl).num;have QK:(w2).drew.cell? ⟨mb,1,none⟩=some (.slice (some ⟨gP,0,none⟩) ((aD.push c1 ⟨2,0,0⟩)).ins.length vv):=nt.1.drew.cell rfl;refine dU (λw'=>aL w' mb 200 [Si,.slice (some ⟨gP,0,none⟩) ((aD.push c1 ⟨2,0,0⟩)).ins.length vv,.map (some nb),.bool back]) mixed (by kernel_rfl) (by simp) nt.1.drew ?_;push_cast -dsimp[QK];refine⟨λbE h=>by rw[h.cell (o:=1) rfl];exact rfl,?_⟩;have gv:=dI (w2);refine aA (ob ((Fl).below gv)) ?_;rintro _ _ ⟨rfl,rfl⟩;refine⟨nt.1.drew,?_⟩;push_cast -dsimp;refine⟨⟨by omega,by omega⟩,?_⟩;have vZ:Vc.Own B 164 3 bN (w2).drew (.slice (some ⟨gP,0,none⟩) ((aD.push c1 ⟨2,0,0⟩)).ins.length vv) ((aD.push c1 ⟨2,0,0⟩)).ins:=gu.aJ ((Kept.refl (λ_=>False) (w2)).drew) (λ_ _ h=>h);refine fr (i:=c1.ins.length) (f:=1) (x:=(⟨2,0,0⟩:I3)) (y:=(⟨2,((aD.push c1 ⟨2,0,0⟩).ins.length:Int),0⟩:I3)) vZ rfl y7 (by decide) rfl rfl ?_;intro wP QT Qh zP;have Qn:=Mk.patch ((Fl).below gv) (nt.below gv) rfl QT Qh;obtain⟨p4,jf⟩:=Qn;have fk:gM mb (w2) wP:=(gM.below gv (by have:=(Fl).lt;have:=(Fl).le;omega)).trans jf;refine⟨trivial,?_⟩;push_cast -dsimp
   have uI:∃c2:aD,c2=⟨(aD.push c1 ⟨2,0,0⟩).sets,(aD.push c1 ⟨2,0,0⟩).ins.set c1.ins.length ⟨2,((aD.push c1 ⟨2,0,0⟩).ins.length:Int),0⟩⟩:=⟨_,rfl⟩;obtain⟨c2,uI⟩:=uI;rw[<-uI]at p4;have aE2:c2.ins.length=c1.ins.length+1:=by rw[uI];simp[aD.push]
   have jI:c2.ins[c1.ins.length]?=some ⟨2,((c1.ins.length+1:Nat):Int),0⟩:=by
    rw[uI]
    show ((aD.push c1 ⟨2,0,0⟩).ins.set c1.ins.length _)[c1.ins.length]?=_
    rw[List.getElem?_set,if_pos rfl,if_pos (by omega),Yw]
   have hE2:Ext c1 c2:=by rw[uI];exact(Ext.push c1 _).set (Nat.le_refl _)
   have GF:c2.sets=c1.sets:=by rw[uI];rfl
   have kP:gM mb w1 wP:=k2.trans fk;have zP':=kP.kept.size;obtain⟨hBP,cxP,hNP,hPP⟩:=Ia wP (k1o.trans (kP.out K2) (λ_ _ h=>h));have hXP:=λb hb=>(show (Z b\/b=mb\/B<=b)/\b<wP.heap.size from by have:=hX1 b hb;exact⟨this.1,by omega⟩)
   have e2:wP.cell? ⟨xb,2,none⟩=some (.slice (some ⟨b1,o,none⟩) 1 pc):=hBP.cell rfl;push_cast -dsimp[e2,cxP];refine aF (hx aE6 oV nm jJ hr B mb nb back X Z _ c2 _ p4 hXP mJ hNP hPP (by rw[GF];omega)) ?_ ?_
   ·rintro _ w4 ⟨⟨c3,Fm,N4,Nn,lQ⟩,k3⟩;have y9:=kP.trans k3;have aQF:c3.sets.length<=c3.ins.length:=by have:=N4.sum;rw[GF]at this;omega
    push_cast -dsimp;refine aF (td Fm (by omega) ⟨3,(c1.ins.length:Int),0⟩) ?_ ?_
    ·rintro _ w5 ⟨hl5,rfl,CW,k5⟩;have CC:(aD.push c3 ⟨3,(c1.ins.length:Int),0⟩).ins[c1.ins.length]?=some ⟨2,((c1.ins.length+1:Nat):Int),0⟩:=(Ext.push c3 _).ins _ _ (N4.ins _ _ jI);have HO:=oH c3 ⟨3,(c1.ins.length:Int),0⟩;push_cast -dsimp;have fk:=(CW).st;obtain⟨Si,ivP,usP,nt⟩:=fk;have gu:=nt.2.2.1;obtain⟨iaP,vv,rfl⟩:=gu.slice;have Qf:=gu.sl.get CC;obtain⟨gP,oP,eP,_,_⟩:=Qf;subst eP;have vt:oP=0:=Vc.Own.ZG gu;subst vt;have Qj:=(List.getElem?_eq_some_iff.1 CC).1;have D2:=(CW).num;have QK:(w5).drew.cell? ⟨mb,1,none⟩=some (.slice (some ⟨gP,0,none⟩) ((aD.push c3 ⟨3,(c1.ins.length:Int),0⟩)).ins.length vv):=nt.1.drew.cell rfl;refine dU (λw'=>aL w' mb 200 [Si,.slice (some ⟨gP,0,none⟩) ((aD.push c3 ⟨3,(c1.ins.length:Int),0⟩)).ins.length vv,.map (some nb),.bool back]) mixed (by kernel_rfl) (by simp) nt.1.drew ?_;push_cast -dsimp[QK];refine⟨λbE h=>by rw[h.cell (o:=1) rfl];exact rfl,?_⟩;have gv:=dI (w5);refine aA (ob ((CW).below gv)) ?_;rintro _ _ ⟨rfl,rfl⟩;refine⟨nt.1.drew,?_⟩;push_cast -dsimp;refine⟨⟨by omega,by omega⟩,?_⟩;have vZ:Vc.Own B 164 3 bN (w5).drew (.slice (some ⟨gP,0,none⟩) ((aD.push c3 ⟨3,(c1.ins.length:Int),0⟩)).ins.length vv) ((aD.push c3 ⟨3,(c1.ins.length:Int),0⟩)).ins:=gu.aJ ((Kept.refl (λ_=>False) (w5)).drew) (λ_ _ h=>h);refine fr (i:=c1.ins.length) (f:=2) (x:=(⟨2,((c1.ins.length+1:Nat):Int),0⟩:I3)) (y:=(⟨2,((c1.ins.length+1:Nat):Int),((aD.push c3 ⟨3,(c1.ins.length:Int),0⟩).ins.length:Int)⟩:I3)) vZ rfl CC (by decide) rfl rfl ?_;intro wP QT Qh zP
     have Qn:=Mk.patch ((CW).below gv) (nt.below gv) rfl QT Qh;obtain⟨p4,jf⟩:=Qn;have fk:gM mb (w5) wP:=(gM.below gv (by have:=(CW).lt;have:=(CW).le;omega)).trans jf;refine⟨trivial,?_⟩;push_cast -dsimp;have Qb:∃c5:aD,c5=⟨(aD.push c3 ⟨3,(c1.ins.length:Int),0⟩).sets,(aD.push c3 ⟨3,(c1.ins.length:Int),0⟩).ins.set c1.ins.length ⟨2,((c1.ins.length+1:Nat):Int),((aD.push c3 ⟨3,(c1.ins.length:Int),0⟩).ins.length:Int)⟩⟩:=⟨_,rfl⟩;obtain⟨c5,Qb⟩:=Qb;rw[<-Qb]at p4;have aJg:c5.ins.length=c3.ins.length+1:=by rw[Qb];simp[aD.push]
     have hE5:Ext c1 c5:=by rw[Qb];exact((hE2.trans N4).trans (Ext.push c3 _)).set (Nat.le_refl _)
     have aNr:c5.ins[c1.ins.length]?=some ⟨2,((c1.ins.length+1:Nat):Int),((c5.ins.length:Nat):Int)⟩:=by
      rw[aJg,Qb]
      show ((aD.push c3 ⟨3,(c1.ins.length:Int),0⟩).ins.set c1.ins.length _)[c1.ins.length]?=_
      rw[List.getElem?_set,if_pos rfl,if_pos (by omega),HO]
     have hj5:c5.ins[c3.ins.length]?=some ⟨3,(c1.ins.length:Int),0⟩:=by
      rw[Qb]
      show ((aD.push c3 ⟨3,(c1.ins.length:Int),0⟩).ins.set c1.ins.length _)[c3.ins.length]?=_
      rw[List.getElem?_set,if_neg (by omega)];exact rR c3 _
     have hs5:eK c3 c5 (c1.ins.length+1) c3.ins.length:=by
      rw[Qb];exact eK.set (eK.push ((Ext.refl c3).same (Nat.le_refl _)) (Nat.le_refl _)) (.inl (by omega))
     rw[aE2]at lQ;refine⟨⟨c5,p4,hE1.trans hE5,by rw[iQ];omega,?_⟩,k1.trans (y9.trans (k5.trans fk))⟩;simp only[iC,Int.toNat_natCast];refine⟨c1.ins.length,lj (A:=c.ins.length) (B:=c1.ins.length) (λa b=>hlen c1 a b) (λp q hp hq=>dT x p q ((hE5.same (Nat.le_refl _)).sub hp hq)) _ _ _ (Nat.le_refl _) (Nat.le_refl _) Nh,?_⟩;rw[if_pos Ih];exact⟨aNr,c3.ins.length,dT x _ _ hs5 lQ,hj5,aJg⟩
    rintro ce w5 ⟨hl5,ht,k5⟩;push_cast -dsimp;exact⟨by rw[iQ];omega,ht,k1.trans (y9.trans k5)⟩
   rintro ce w4 ⟨CE,ht,k4⟩;push_cast -dsimp;exact⟨by rw[iQ];omega,ht,k1.trans (kP.trans k4)⟩
  rintro ce w2 ⟨od,ht,k2⟩;push_cast -dsimp;exact⟨by rw[iQ];omega,ht,k1.trans k2⟩
 rw[if_neg yJ]at iQ;have hN0:∃N:Nat,hi=n+N:=⟨(hi-n).toNat,by omega⟩;obtain⟨N,rfl⟩:=hN0;have hNt:((n:Int)+(N:Int)-(n:Int)).toNat=N:=by omega
 rw[hNt]at iQ;have aTs:=hlen;have d3':w1.cell? ⟨xb,3,none⟩=some (.int .i64 (n:Int)):=oT.cell rfl;push_cast -dsimp[d3'];refine KZ [6,7,8,76,77,78,79,80,81,82,83,84,85,86,87,88,89,90,91,92,93,94,95,96,97,98,99,100,101,102,103,104,105,106,107,108] (λz wx=>∃(ci:aD) (ks:List Nat) (ov:Value),z 6=ov/\Mk B mb nb back (λb=>X b\/ov.ownBlock=some b) wx ci/\Ext c1 ci/\ci.ins.length=c1.ins.length+N*(bF x+1)/\nQ ci (iC (gi nm) ci back x) N c1.ins.length ks ci.ins.length/\Vc.Own w.heap.size 3 1 bT wx ov ks/\ks.length<=2000/\gM mb w wx) ?_ ?_
 ·refine aK [6,7,8,76,77,78,79,80,81,82,83,84,85,86,87,88,89,90,91,92,93,94,95,96,97,98,99,100,101,102,103,104,105,106,107,108] (λz wx=>∃(s:Nat) (ci:aD) (ks:List Nat) (ov:Value),z 7=.int .i64 ((n+s:Nat):Int)/\z 6=ov/\s<=N/\Mk B mb nb back (λb=>X b\/ov.ownBlock=some b) wx ci/\Ext c1 ci/\ci.ins.length=c1.ins.length+s*(bF x+1)/\nQ ci (iC (gi nm) ci back x) s c1.ins.length ks ci.ins.length/\Vc.Own w.heap.size 3 1 bT wx ov ks/\ks.length=s/\gM mb w wx) (λz _=>N+n-(intOf (z 7)).toNat) ?_ ?_
  ·exact⟨0,c1,[],_,rfl,rfl,Nat.zero_le _,K2.iZ (λb hb=>hb.elim id (λh=>by cases h)),Ext.refl c1,by simp,by simp[nQ],Vc.Own.nil (enc:=bT) _ _ (λ_=>rfl) _,rfl,k1⟩
  intro z wx hI;obtain⟨s,ci,ks,ov,h7,h6,Qp,Bt,Bs,Ig,hSx,QV,WR,kx⟩:=hI;have RL:=kx.out h;have zx:=kx.kept.size;obtain⟨ns,cx,hNx,hPx⟩:=Ia wx RL;have dx4:wx.cell? ⟨xb,4,none⟩=some (.int .i64 ((n:Int)+(N:Int))):=ns.cell rfl;push_cast -dsimp[h7,h6,dx4];have ny:ci.sets.length<=ci.ins.length:=by have:=Bs.sum;omega
  have fS:=QV.block;have aAH:=Bt.off QV (by decide) (by decide) (by omega);have hXx:∀b,(X b\/ov.ownBlock=some b)->(Z b\/b=mb\/B<=b)/\b<wx.heap.size:=λb hb=>by
   rcases hb with hb|hb
   ·have:=hX b hb;exact⟨this.1,by omega⟩
   have:=fS b hb;exact⟨.inr (.inr (by omega)),this.2⟩
  refine⟨λIe=>?_,λeo=>?_⟩
  ·have hmul:(s+1)*(bF x+1)<=N*(bF x+1):=Nat.mul_le_mul_right _ (by omega);have Qq:(s+1)*(bF x+1)=s*(bF x+1)+(bF x+1):=Nat.succ_mul _ _;refine aF (td Bt (by omega) ⟨2,0,0⟩) ?_ ?_
   ·rintro _ w2 ⟨od,rfl,Fl,k2⟩;have z2:=k2.kept.size;have y7:=rR ci ⟨2,0,0⟩;have Yw:=oH ci ⟨2,0,0⟩;push_cast -dsimp;have fk:=(Fl).st;obtain⟨Si,ivP,usP,nt⟩:=fk;have gu:=nt.2.2.1;obtain⟨iaP,vv,rfl⟩:=gu.slice;have Qf:=gu.sl.get y7;obtain⟨gP,oP,eP,_,_⟩:=Qf;subst eP;have vt:oP=0:=Vc.Own.ZG gu;subst vt;have Qj:=(List.getElem?_eq_some_iff.1 y7).1;have D2:=(Fl).num;have QK:(w2).drew.cell? ⟨mb,1,none⟩=some (.slice (some ⟨gP,0,none⟩) ((aD.push ci ⟨2,0,0⟩)).ins.length vv):=nt.1.drew.cell rfl;refine dU (λw'=>aL w' mb 200 [Si,.slice (some ⟨gP,0,none⟩) ((aD.push ci ⟨2,0,0⟩)).ins.length vv,.map (some nb),.bool back]) mixed (by kernel_rfl) (by simp) nt.1.drew ?_;push_cast -dsimp[QK];refine⟨λbE h=>by rw[h.cell (o:=1) rfl];exact rfl,?_⟩;have gv:=dI (w2);refine aA (ob ((Fl).below gv)) ?_;rintro _ _ ⟨rfl,rfl⟩;refine⟨nt.1.drew,?_⟩;push_cast -dsimp;refine⟨⟨by omega,by omega⟩,?_⟩;have vZ:Vc.Own B 164 3 bN (w2).drew (.slice (some ⟨gP,0,none⟩) ((aD.push ci ⟨2,0,0⟩)).ins.length vv) ((aD.push ci ⟨2,0,0⟩)).ins:=gu.aJ ((Kept.refl (λ_=>False) (w2)).drew) (λ_ _ h=>h);refine fr (i:=ci.ins.length) (f:=1) (x:=(⟨2,0,0⟩:I3)) (y:=(⟨2,((aD.push ci ⟨2,0,0⟩).ins.length:Int),0⟩:I3)) vZ rfl y7 (by decide) rfl rfl ?_;intro wP QT Qh zP;have Qn:=Mk.patch ((Fl).below gv) (nt.below gv) rfl QT Qh;obtain⟨p4,jf⟩:=Qn;have fk:gM mb (w2) wP:=(gM.below gv (by have:=(Fl).lt;have:=(Fl).le;omega)).trans jf;refine⟨trivial,?_⟩;push_cast -dsimp
    have uI:∃c2:aD,c2=⟨(aD.push ci ⟨2,0,0⟩).sets,(aD.push ci ⟨2,0,0⟩).ins.set ci.ins.length ⟨2,((aD.push ci ⟨2,0,0⟩).ins.length:Int),0⟩⟩:=⟨_,rfl⟩;obtain⟨c2,uI⟩:=uI;rw[<-uI]at p4;have aE2:c2.ins.length=ci.ins.length+1:=by rw[uI];simp[aD.push]
    have jI:c2.ins[ci.ins.length]?=some ⟨2,((ci.ins.length+1:Nat):Int),0⟩:=by
     rw[uI]
     show ((aD.push ci ⟨2,0,0⟩).ins.set ci.ins.length _)[ci.ins.length]?=_
     rw[List.getElem?_set,if_pos rfl,if_pos (by omega),Yw]
    have hE2:Ext ci c2:=by rw[uI];exact(Ext.push ci _).set (Nat.le_refl _)
    have GF:c2.sets=ci.sets:=by rw[uI];rfl
    have kP:gM mb wx wP:=k2.trans fk;have zP':=kP.kept.size;obtain⟨hBP,cxP,hNP,hPP⟩:=Ia wP (RL.trans (kP.out Bt) (λ_ _ h=>h));have hXP:=λb hb=>(show (Z b\/b=mb\/B<=b)/\b<wP.heap.size from by have:=hXx b hb;exact⟨this.1,by omega⟩)
    have e2:wP.cell? ⟨xb,2,none⟩=some (.slice (some ⟨b1,o,none⟩) 1 pc):=hBP.cell rfl;push_cast -dsimp[e2,cxP];refine aF (hx aE6 oV nm jJ hr B mb nb back _ Z _ c2 _ p4 hXP mJ hNP hPP (by rw[GF];omega)) ?_ ?_
    ·rintro _ w4 ⟨⟨c3,Fm,N4,Nn,lQ⟩,k3⟩;have y9:=kP.trans k3;have z4:=y9.kept.size;have yY:=QV.aJ y9.kept (λg hg hm=>aAH g hg hm);push_cast -dsimp;refine cG bm rfl rfl (by omega) ?_;intro w5 cH;have z5:=cH.size;have CW:=Fm.below cH.below;have sC:=yY.new cH;have WW:=CW.off sC (by decide) (by decide) (by omega);push_cast -dsimp;refine aW (base:=w.heap.size) [ci.ins.length] (enc:=bT) bm sC (by rfl) (λj u hu=>by rw[Nat.zero_add];exact cH.cell hu) (by simp[bT,Value.oneCell']) (by have:=Fm.num;simp only[List.length_cons,List.length_nil];omega) (by omega) ?_;intro v6 w6 Fo WL hn6;have aEY:Kept (λj=>ov.ownBlock=some j) w5 w6:=Kept.grown WL (λ_ h=>h);have z6:=aEY.size;have hM6:=CW.Y4 WW aEY hn6;have kx6:gM mb w w6:=(kx.trans (y9.trans (gM.below cH.below (by have:=Fm.lt;have:=Fm.le;omega)))).Y4 (aEY.weaken (λj _ h=>(fS j h).1)) (by omega);have aEb:=hE2.trans N4;have hS3:nQ c3 (iC (gi nm) c3 back x) s c1.ins.length ks ci.ins.length:=EF (A:=c1.ins.length) (λa b=>hlen ci a b) (λp q hp hq=>dT x p q ((aEb.same (Nat.le_refl _)).sub hp hq)) (aEb.same (Nat.le_refl _)) _ _ _ (Nat.le_refl _) hSx;rw[aE2]at lQ Nn;have hS6:nQ c3 (iC (gi nm) c3 back x) (s+1) c1.ins.length (ks++[ci.ins.length]) c3.ins.length:=EG (N4.ins _ _ jI) lQ _ _ _ hS3;push_cast -dsimp
     exact⟨⟨by omega,by omega⟩,⟨s+1,c3,_,_,by first|(push_cast;done)|(push_cast;congr 1;done)|(push_cast;congr 1;omega),rfl,by omega,hM6,Bs.trans aEb,by rw[Nn,Ig,Qq];omega,hS6,Fo,by simp[WR],kx6⟩,by rw[h7];simp only[intOf];omega⟩
    rintro ce w4 ⟨CE,ht,k4⟩;push_cast -dsimp;exact⟨by rw[iQ];omega,ht,kx.trans (kP.trans k4)⟩
   rintro ce w2 ⟨od,ht,k2⟩;push_cast -dsimp;exact⟨by rw[iQ];omega,ht,kx.trans k2⟩
  have hsN:s=N:=by omega
  subst hsN
  have:=Bt.num;have Lj:s<=s*(bF x+1):=Nat.le_mul_of_pos_right _ (by omega);exact⟨ci,ks,_,rfl,Bt,Bs,Ig,hSx,QV,by omega,kx⟩
 intro z w7 hJ;obtain⟨cs,ks,ov,h6,hM7,hE7,hl7,Na,Zv,WR,k7⟩:=hJ;have z7:=k7.kept.size;have aEQ:=yf (λa b=>hlen cs a b) _ _ _ Na;have e:∃e,e=cs.ins.length:=⟨_,rfl⟩;obtain⟨e,he⟩:=e;rw[<-he]at Na aEQ;obtain⟨oa,oc,rfl⟩:=Zv.slice;push_cast -dsimp[h6];refine aK [10,111,112,113,114,115,116,117,118,119,120,121,122,123,124,125] (λz wz=>∃(t:Nat) (ct:aD),z 111=.int .i64 t/\t<=ks.length/\Mk B mb nb back (λb=>X b\/(Value.slice oa ks.length oc).ownBlock=some b) wz ct/\jz cs ct (ks.take t) (λx=>⟨x.op,x.a,(e:Int)⟩)/\Vc.Own w.heap.size 3 1 bT wz (.slice oa ks.length oc) ks/\gM mb w wz) (λz _=>ks.length-(intOf (z 111)).toNat) ?_ ?_
 ·exact⟨0,cs,rfl,Nat.zero_le _,hM7,jz.nil cs _,Zv,k7⟩
 intro z wz hI;obtain⟨t,ct,aHO,ht,IQ,vg,hOz,kz⟩:=hI;have zz:=kz.kept.size;have WX:=IQ.off hOz (by decide) (by decide) (by omega);have hlz:=vg.len;push_cast -dsimp[aHO];refine⟨λIe=>?_,λeo=>?_⟩
 ·obtain⟨k,hk,vK,_,hkt⟩:=ah (l:=ks) (i:=t) (by omega);obtain⟨bj,oj,hej,_,qL⟩:=hOz.sl.get hk;cases hej;have cj:wz.cell? ⟨bj,oj+t,none⟩=some (.int .i64 (k:Int)):=by simpa[bT] using qL 0 _ rfl
  have aNv:k<ct.ins.length:=by have:=aEQ.2 k vK;omega
  obtain⟨xk,TU,_⟩:=ah (l:=ct.ins) (i:=k) aNv;push_cast -dsimp[cj];refine⟨⟨by omega,by omega⟩,?_⟩;have fk:=(IQ).st;obtain⟨Si,ivP,usP,nt⟩:=fk;have gu:=nt.2.2.1;obtain⟨iaP,vv,rfl⟩:=gu.slice;have Qf:=gu.sl.get TU;obtain⟨gP,oP,eP,_,_⟩:=Qf;subst eP;have vt:oP=0:=Vc.Own.ZG gu;subst vt;have Qj:=(List.getElem?_eq_some_iff.1 TU).1;have D2:=(IQ).num;have QK:(wz).drew.cell? ⟨mb,1,none⟩=some (.slice (some ⟨gP,0,none⟩) (ct).ins.length vv):=nt.1.drew.cell rfl;refine dU (λw'=>aL w' mb 200 [Si,.slice (some ⟨gP,0,none⟩) (ct).ins.length vv,.map (some nb),.bool back]) mixed (by kernel_rfl) (by simp) nt.1.drew ?_;push_cast -dsimp[QK];refine⟨λbE h=>by rw[h.cell (o:=1) rfl];exact rfl,?_⟩;have gv:=dI (wz);refine aA (ob ((IQ).below gv)) ?_;rintro _ _ ⟨rfl,rfl⟩;refine⟨nt.1.drew,?_⟩;push_cast -dsimp;refine⟨⟨by omega,by omega⟩,?_⟩;have vZ:Vc.Own B 164 3 bN (wz).drew (.slice (some ⟨gP,0,none⟩) (ct).ins.length vv) (ct).ins:=gu.aJ ((Kept.refl (λ_=>False) (wz)).drew) (λ_ _ h=>h);refine fr (i:=k) (f:=2) (x:=xk) (y:=(⟨xk.op,xk.a,(ct.ins.length:Int)⟩:I3)) vZ rfl TU (by decide) rfl rfl ?_;intro wP QT Qh zP;have Qn:=Mk.patch ((IQ).below gv) (nt.below gv) rfl QT Qh;obtain⟨p4,jf⟩:=Qn;have fk:gM mb (wz) wP:=(gM.below gv (by have:=(IQ).lt;have:=(IQ).le;omega)).trans jf;refine⟨trivial,?_⟩;push_cast -dsimp;have hTn:=jz.step (g:=λx=>⟨x.op,x.a,(e:Int)⟩) (λx=>rfl) vg TU;rw[<-hkt]at hTn;have hec:(e:Int)=(ct.ins.length:Int):=by rw[he,hlz]
  rw[hec]at hTn vg;exact⟨⟨by omega,by omega⟩,⟨t+1,_,rfl,by omega,p4,by rw[hec];exact hTn,hOz.aJ fk.kept (λg hg hm=>WX g hg hm),kz.trans fk⟩,by rw[aHO];simp only[intOf];omega⟩
 have Nt:t=ks.length:=by omega
 rw[Nt,List.take_length]at vg;have aAo:∀k∈ks,c1.ins.length<=k:=λk hk=>(aEQ.2 k hk).1;have hE:=hE1.trans hE7;have hIn:eK c1 ct c.ins.length c1.ins.length:=⟨λk h1 h2=>by
  rw[vg.ins k,if_neg (λhm=>by have:=aAo k hm;omega)];exact(hE7.same (Nat.le_refl _)).1 k h1 h2,λi s hs=>by rw[vg.sets];exact hE7.sets i s hs⟩
 have hH:sK ct (iC (gi nm) ct back x) e N c1.ins.length:=Oe (λa b=>hlen cs a b) vg (λa b hab hj=>dT x a b (vg.same hj) hab) _ _ _ (λj hj=>hj) (λj hj=>.inl hj) Na;refine⟨⟨ct,IQ.iZ (λb hb=>.inl hb),⟨λk y hy=>?_,λk s hs=>?_,?_⟩,by rw[hlz,iQ,hl7];omega,?_⟩,kz⟩
 ·have hk:=(List.getElem?_eq_some_iff.1 hy).1
  have:=hE1.sum;rw[vg.ins k,if_neg (λhm=>by have:=aAo k hm;omega)];exact hE.ins k y hy
 ·rw[vg.sets];exact hE.sets k s hs
 ·have:=hE.sum;rw[vg.sets,hlz];exact this
 simp only[iC,Int.toNat_natCast];refine⟨c1.ins.length,lj (A:=c.ins.length) (B:=c1.ins.length) (λa b=>hlen c1 a b) (λp q hp hq=>dT x p q (hIn.sub hp hq)) _ _ _ (Nat.le_refl _) (Nat.le_refl _) Nh,?_⟩;rw[if_neg yJ,hNt,hlz,<-he];exact hH
theorem ZV (x:aG)(lo hi:Int)(hx:nh x):nh (.many x lo hi):=by
 intro bU oV nm jJ hr B mb nb back X Z w c v h hX mJ hN hV qS;simp only[gx]at jJ;have K4:=hV;simp only[bC]at hV;obtain⟨xb,psv,u,rfl,CI,hB,_,_⟩:=hV;have hpm:=Bg (x:=x) (lo:=lo) (hi:=hi);have d0:w.cell? ⟨xb,0,none⟩=some (.int .i64 6):=hB.cell rfl;refine bG Tryz.func111 rfl (by kernel_rfl) [] rfl ?_;push_cast -dsimp(maxSteps:=4000000) [Tryz.ntmps111];push_cast -dsimp[d0];refine aF (U5 x lo hi hx bU (by omega) nm jJ hr B mb nb back X Z w c _ h hX mJ hN K4 qS) ?_ ?_
 ·rintro _ w1 h1;push_cast -dsimp;exact h1
 rintro ce w1 h1;push_cast -dsimp;exact h1
theorem ZT (l:List aG)(cW:l≠[])(dA:∀y∈l,nh y):nh (.alt l):=by
 intro bU oV nm jJ hr B mb nb back X Z w c v h hX mJ hN hV qS;simp only[bI]at bU;simp only[gx]at jJ;have HQ:=tE.1 jJ;simp only[bC]at hV;obtain⟨xb,psv,vs,rfl,CI,hB,hs,hVl⟩:=hV;have CG:=EO (l:=l);have aNW:=CG.2.1;obtain⟨pa,pc,rfl,aFa⟩:=hs.shape;have d0:w.cell? ⟨xb,0,none⟩=some (.int .i64 5):=hB.cell rfl;have d2:w.cell? ⟨xb,2,none⟩=some (.slice pa vs.length pc):=hB.cell rfl;refine bG Tryz.func111 rfl (by kernel_rfl) [] rfl ?_;push_cast -dsimp(maxSteps:=4000000) [Tryz.ntmps111];push_cast -dsimp[d0,d2];refine aF (aDL l cW dA bU (λy hy=>by have:=CG.2.2 y hy;omega) (by omega) nm HQ hr B mb nb back X Z w c _ vs h hX mJ hN hs hVl qS) ?_ ?_
 ·rintro _ w1 h1;push_cast -dsimp;simp only[bF,iC];exact h1
 rintro ce w1 h1;push_cast -dsimp;simp only[bF];exact h1
mutual
theorem M3:∀x,cO x->nh x
 | .one k,_=>aDO k
 | .any,_=>aDM
 | .gg,_=>ZU
 | .cat l,h=>aDN l (Gb l (by simpa only[cO] using h))
 | .alt l,h=>by
  simp only[cO]at h;exact ZT l h.1 (Gb l h.2)
 | .many x lo hi,h=>ZV x lo hi (M3 x (by simpa only[cO] using h))
theorem Gb:∀(l:List aG),gA l->∀(x:aG),x∈l->nh x
 | [],_,x,h=>by cases h
 | y::l,hn,x,h=>by
  simp only[gA]at hn;have hy:=M3 y hn.1;rcases List.mem_cons.1 h with h|h
  ·rw[h];exact hy
  exact Gb l hn.2 x h
end
end Go.Proofs.YtemjejfpadnljaaGreatDoor
end
section
namespace Cae
section
variable {has:aw->Int->Prop} {c:aD} {back:Bool}
structure fy (has:aw->Int->Prop)(back:Bool)(x:aG)(c:aD):Prop where
 seg:iC has c back x 0 (bF x)
 len:c.ins.length=bF x+1
 yes:c.ins[bF x]?=some ⟨5,0,0⟩
 aJ4:c.ins.length<=2000
 sets:c.sets.length<=c.ins.length
 right:∀s∈c.sets,aO (-2) s=true
theorem fy.ok {x:aG}(h:fy has back x c):aS c=true:=by
 have hl:=h.len;have hm:=h.aJ4;have hs:=h.sets;have hr:=iA x 0 (bF x) (bF x+1) (by omega) h.seg;unfold aS;simp only[Bool.and_eq_true,decide_eq_true_eq,List.all_eq_true];refine⟨⟨⟨⟨by omega,by omega,by omega⟩,?_⟩,λy hy=>?_⟩,h.right⟩
 ·rw[show c.ins.length-1=bF x by omega,h.yes]
  rfl
 obtain⟨k,hk⟩:=List.getElem?_of_mem hy;have aj:=(List.getElem?_eq_some_iff.1 hk).1;rw[hl];by_cases hc:k<bF x
 ·obtain⟨z,h1,h2⟩:=hr k (Nat.zero_le _) hc;rw[h1]at hk;cases hk;exact h2
 have e:k=bF x:=by omega
 rw[e,h.yes]at hk;cases hk;exact SQ
theorem fy.XB {x:aG}{bS:List Int}{i:Nat}(h:fy has back x c)(vL:∀p∈bS,0<=p/\p<=1114111)(bU:bI x)(hi:i<=bS.length):(e9 c (Dr bS back i)).1=true↔lW has bS x i back :=
 (mY (CR.of h.ok) _).trans (Mg vL bU h.seg h.yes hi)
end
def yq (has:aw->Int->Prop)(f:dY)(p:bM):Prop:=p.dD=f.dD/\dW (λ(r:bV) (q:dG)=>r.brk=q.brk/\fy has true q.before r.before/\fy has false q.after r.after) p.rules f.rules
section
variable {has:aw->Int->Prop} {bS:List Int}
theorem XG {r:bV}{q:dG}(vL:∀p∈bS,0<=p/\p<=1114111)(bU:bI q.before/\bI q.after)(h:r.brk=q.brk/\fy has true q.before r.before/\fy has false q.after r.after){i:Nat}(hi:i<=bS.length):fM bS i r=true↔RW has bS q i:=by
 unfold fM RW;rw[Bool.and_eq_true];exact and_congr (h.2.1.XB vL bU.1 hi) (h.2.2.XB vL bU.2 hi)
theorem Mf {dD:Bool}{i:Nat}(vL:∀p∈bS,0<=p/\p<=1114111)(hi:i<=bS.length):∀{l:List bV} {m:List dG},dW (λ(r:bV) (q:dG)=>r.brk=q.brk/\fy has true q.before r.before/\fy has false q.after r.after) l m->(∀q∈m,bI q.before/\bI q.after)->l.foldr (λr acc=>if fM bS i r then r.brk else acc) dD=BF has bS dD i m:=by
 intro l m h;induction h with
 | nil=>intro _;rfl
 | @cons r q l m h1 h2 ih =>
  intro bU;rw[List.foldr_cons,BF,ih λq hq=>bU q (List.mem_cons_of_mem _ hq)];have hm:=XG vL (bU q (List.mem_cons_self ..)) h1 hi;by_cases hq:RW has bS q i
  ·rw[if_pos hq,if_pos (hm.2 hq),h1.1]
  rw[if_neg hq,if_neg (λhh=>hq (hm.1 hh))]
theorem H4 {f:dY}{p:bM}(vL:∀q∈bS,0<=q/\q<=1114111)(bU:∀q∈f.rules,bI q.before/\bI q.after)(h:yq has f p):fF p bS=tj has bS f.rules f.dD:=by
 unfold fF tj bX;by_cases cW:bS=[]
 ·rw[if_pos cW,if_pos cW]
 rw[if_neg cW,if_neg cW];refine List.filter_congr λi hi=>?_;rw[List.mem_range]at hi;unfold nF isM eZ;rw[List.drop_zero,h.1,Mf vL (by omega) h.2 bU]
theorem yq.right {f:dY}{p:bM}(h:yq has f p)(hl:f.rules.length<=20):bB p=true:=by
 have hlen:=dW.len h.2;unfold bB;rw[Bool.and_eq_true,decide_eq_true_iff,List.all_eq_true];refine⟨by omega,λr hr=>?_⟩;have key:∀{l:List bV} {m:List dG},dW (λ(r:bV) (q:dG)=>r.brk=q.brk/\fy has true q.before r.before/\fy has false q.after r.after) l m->∀r∈l,aS r.before=true/\aS r.after=true:=by
  intro l m h;induction h with
  | nil=>intro r hr;cases hr
  | cons h1 _ ih =>
   intro r hr;rcases List.mem_cons.1 hr with rfl|hr
   ·exact⟨h1.2.1.ok,h1.2.2.ok⟩
   exact ih r hr
 have:=key h.2 r hr;rw[this.1,this.2];rfl
end
end Cae
end
section
namespace Go.Proofs.YtemjejfpadnljaaGreatDoor
open Go.Vc Go.Proofs Go.RowKit Cae
attribute [local irreducible] cg aa ag aX runK ar Sl Vc.Own vc aQ br a7
theorem U4 (rb eb:Nat)(e:Int)(f0:List Value)(e0:Value)(hf:f0.length=2)(w:World)(hr:aL w rb 127 f0)(he:aL w eb 34 [e0])(cW:rb≠eb) :
  CallsD Tryz.prog 110 #[.pointer (some ⟨rb,0,none⟩),.pointer (some ⟨eb,0,none⟩)] (.panicking [{ v:=.iface 196 (.agg #[.int .i64 e]),recovered:=false }]) w λex u' w' =>
   ex=.returned (.tuple #[])/\u'=.panicking [{ v:=.iface 196 (.agg #[.int .i64 e]),recovered:=true }]/\aL w' rb 127 [.slice none 0 0,.slice none 0 0]/\aL w' eb 34 [.iface 74 (.int .i64 e)]/\Kept (λi=>i=rb\/i=eb) w w':=by
 refine callsD_of_wpS Tryz.func110 rfl λc₀ cs hu=>?_;apply wpS_seq;apply wpS_region;simp[wpOpsS,go_sem,recoverD,hu,Tryz.ntmps110,Exit.thenS];refine rZ (t:=[.pointer (some ⟨rb,0,none⟩),.pointer (some ⟨eb,0,none⟩),.iface 196 (.agg #[.int .i64 e]),undef,undef,.iface 196 (.agg #[.int .i64 e]),undef,undef,undef,undef,undef,undef,undef,undef,undef,undef,undef,undef,undef,undef]) ?_;push_cast -dsimp;refine wQ Tryz.underlying196 ?_;push_cast -dsimp;refine ao (z:=[.int .i64 0]) (by kernel_rfl) ?_;intro w1 aV;have C1:=aV.aM;have R1:=hr.below aV.below hr.lt;have E1:=he.below aV.below he.lt;have z1:=aV.size;push_cast -dsimp;refine aH (xt:=196) (n:=1) (by kernel_rfl) C1 rfl (by decide) (by simp[Value.oneCell']) ?_;intro w2 bH;have C2:aL w2 w.heap.size 196 [.int .i64 e]:=bH.aM;have Ka:=hr.lt;have yZ:=he.lt;have R2:=R1.kept bH.kept (by omega);have E2:=E1.kept bH.kept (by omega);push_cast -dsimp;refine ba (λw'=>aL w' w.heap.size 196 [.int .i64 e]) mixed (by kernel_rfl) C2.drew ?_;have d2:w2.drew.cell? ⟨w.heap.size,0,none⟩=some (.int .i64 e):=C2.drew.cell rfl;push_cast -dsimp[d2];refine⟨λbE h=>by rw[aL.cell h (o:=0) rfl];exact rfl,?_⟩;refine aH (xt:=127) (n:=2) (by kernel_rfl) R2.drew rfl (by rw[hf];exact Nat.le_refl _) (by simp[Value.oneCell']) ?_;intro w3 cM;have R3:aL w3 rb 127 [.slice none 0 0,.slice none 0 0]:=by
  have:=cM.aM;rw[List.take_zero,List.nil_append,Nat.zero_add,List.drop_of_length_le (by rw[hf];exact Nat.le_refl _),List.append_nil]at this;exact this
 have C3:aL w3 w.heap.size 196 [.int .i64 e]:=C2.drew.kept cM.kept (by omega);have E3:=E2.drew.kept cM.kept (by omega);refine⟨C3,?_⟩;push_cast -dsimp;refine aC E3 (by simp) rfl ?_;intro w4 ae;have E4:aL w4 eb 34 [.iface 74 (.int .i64 e)]:=ae.aM;have R4:=R3.kept ae.kept (by omega);have C4:aL w4 w.heap.size 196 [.int .i64 e]:=C3.kept ae.kept (by omega);have k4:Kept (λi=>i=rb\/i=eb) w w4:=(((Kept.new (X:=λi=>i=rb\/i=eb) aV).trans bH.kept (λi h1 h2=>by omega)).drew.trans cM.kept (λi _ h=>.inl h)).trans ae.kept (λi _ h=>.inr h);refine⟨C4,?_⟩;push_cast -dsimp;exact⟨rfl,_,rfl,.tuple #[],OT (by rfl) _ _,rfl,rfl,R4,E4,k4⟩
theorem aAV (rb eb:Nat)(w:World) :
  CallsD Tryz.prog 110 #[.pointer (some ⟨rb,0,none⟩),.pointer (some ⟨eb,0,none⟩)] .returning w λe u' w'=>e=.returned (.tuple #[])/\u'=.returning/\w'=w:=by
 refine callsD_of_wpS Tryz.func110 rfl λc₀ cs hu=>?_;apply wpS_seq;apply wpS_region;simp[wpOpsS,go_sem,recoverD,hu,Tryz.ntmps110,Exit.thenS];refine rZ (t:=[.pointer (some ⟨rb,0,none⟩),.pointer (some ⟨eb,0,none⟩),.nilIface,undef,undef,.nilIface,undef,undef,undef,undef,undef,undef,undef,undef,undef,undef,undef,undef,undef,undef]) ?_;push_cast -dsimp;refine⟨rfl,.returning,?_,.tuple #[],OT (by rfl) _ _,rfl,rfl,rfl⟩;rw[<-hu]
theorem fz.top {X:Nat->Prop}{w:World}{b:Nat}{nm:bZ}(h:fz X w b nm):fz (λb=>X b\/w.heap.size<=b) w b nm:=by
 obtain⟨gZ,h2,h3⟩:=h;exact⟨gZ,h2,h3.imp λa b h=>⟨h.1,Sl.top (by decide) h.2.1,h.2.2⟩⟩
def T5 (X:Nat->Prop)(nm:bZ)(back:Bool)(x:aG)(w:World)(r:Value)(w':World):Prop :=
 (∃c cv,r=.tuple #[cv,.nilIface]/\cL (λb=>X b/\b<w.heap.size) w' cv c/\fy (gi nm) back x c) \/
 (2000<bF x+1/\r=.tuple #[.agg #[.slice none 0 0,.slice none 0 0],.iface 74 (.int .i64 4)])
def aDx (X:Nat->Prop)(nm:bZ)(back:Bool)(x:aG)(w:World)(e:Ending)(w':World):Prop:=∃v,e=.returned v/\T5 X nm back x w v w'/\Below w.heap.size w w'
theorem RN {X:Nat->Prop}{nm:bZ}{back:Bool}{p:aG}{w W:World}{fv:List Value}{t:Fr}(h6:t.getD 6 undef=.pointer (some ⟨w.heap.size,0,none⟩))(h7:t.getD 7 undef=.pointer (some ⟨w.heap.size+1,0,none⟩)){x:Value}
  (B1:aL W w.heap.size 127 fv) (B2:aL W (w.heap.size+1) 34 [x]) (hl:fv.length=2) (hR:T5 X nm back p w (.tuple #[.agg fv.toArray,x]) W) (hb:Below w.heap.size w W) :
  bodyPostD Tryz.prog Tryz.f72 (aDx X nm back p w) .ret ⟨t.toArray,[{ target:=.fn (.func 110) #[.pointer (some ⟨w.heap.size,0,none⟩),.pointer (some ⟨w.heap.size+1,0,none⟩)],args:=#[] }]⟩ W:=by
 show Leaves _ _ _ _ _ _ _
 refine leaves_cons (f:=110) (args:=#[.pointer (some ⟨w.heap.size,0,none⟩),.pointer (some ⟨w.heap.size+1,0,none⟩)]) (by simp) ?_ ?_
 ·simp only[invoke,Array.empty_append];exact bg Tryz.func110 (by kernel_rfl) (by kernel_rfl)
 refine(aAV w.heap.size (w.heap.size+1) W).mono ?_;rintro e u' w' ⟨rfl,rfl,rfl⟩;obtain⟨vs,hv,hk⟩:=cT (P:=Tryz.prog) (w:=w') Tryz.f72 [.cell 6 127,.cell 7 34] (by rfl) t (λvs=>vs=[.agg fv.toArray,x]) (by
  have d1:aB w' ⟨w.heap.size,0,none⟩ 0 2=some fv:=by rw[<-hl];exact B1.aB
  have d2:w'.cell? ⟨w.heap.size+1,0,none⟩=some x:=B2.cell rfl;push_cast -dsimp[h6,h7,d1,d2])
 refine⟨_,hv,_,rfl,?_,hb⟩;rw[hk];exact hR
theorem u6 {X:Nat->Prop}{nm:bZ}{back:Bool}{p:aG}{w W:World}{fv:List Value}{ce:List PanicEntry}{t:Fr}(h6:t.getD 6 undef=.pointer (some ⟨w.heap.size,0,none⟩))(h7:t.getD 7 undef=.pointer (some ⟨w.heap.size+1,0,none⟩)){x:Value}
  (B1:aL W w.heap.size 127 fv) (B2:aL W (w.heap.size+1) 34 [x]) (hl:fv.length=2) (hT:Kp 4 ce) (hp:2000<bF p+1) (hb:Below w.heap.size w W) :
  bodyPostD Tryz.prog Tryz.f72 (aDx X nm back p w) (.panic ce) ⟨t.toArray,[{ target:=.fn (.func 110) #[.pointer (some ⟨w.heap.size,0,none⟩),.pointer (some ⟨w.heap.size+1,0,none⟩)],args:=#[] }]⟩ W:=by
 unfold Kp at hT;subst hT
 show Leaves _ _ _ _ _ _ _
 refine leaves_cons (f:=110) (args:=#[.pointer (some ⟨w.heap.size,0,none⟩),.pointer (some ⟨w.heap.size+1,0,none⟩)]) (by simp) ?_ ?_
 ·simp only[invoke,Array.empty_append];exact bg Tryz.func110 (by kernel_rfl) (by kernel_rfl)
 refine(U4 w.heap.size (w.heap.size+1) 4 fv x hl W B1 B2 (by omega)).mono ?_;rintro e' u' w' ⟨rfl,rfl,R1,R2,hk⟩;have Bx:=hb.trans (hk.below (B:=w.heap.size) hb.size (λi h=>by omega));obtain⟨vs,hv,hk⟩:=cT (P:=Tryz.prog) (w:=w') Tryz.f72 [.cell 6 127,.cell 7 34] (by rfl) t (λvs=>vs=[.agg #[.slice none 0 0,.slice none 0 0],.iface 74 (.int .i64 4)]) (by
  have d1:aB w' ⟨w.heap.size,0,none⟩ 0 2=some [.slice none 0 0,.slice none 0 0]:=R1.aB;have d2:w'.cell? ⟨w.heap.size+1,0,none⟩=some (.iface 74 (.int .i64 4)):=R2.cell rfl;push_cast -dsimp[h6,h7,d1,d2])
 show Leaves _ _ _ _ [] (settle _) _
 refine⟨_,hv,_,rfl,?_,Bx⟩;rw[hk];exact .inr ⟨hp,rfl⟩
theorem DN (x:aG)(cW:cO x)(bU:bI x)(oV:wd x<=100000)(nm:bZ)(jJ:gx nm x=none)(hr:jL nm)(X:Nat->Prop)(v:Value)(nb:Nat)(back:Bool)(w:World)(hV:bC X w v x)(hN:fz X w nb nm) :
  ar Tryz.prog 72 [v,.map (some nb),.bool back] w λr w'=>T5 X nm back x w r w'/\Below w.heap.size w w':=by
 unfold ar;refine⟨bg Tryz.func72 (by kernel_rfl) (by kernel_rfl),?_⟩;refine calls_of_wp_defers Tryz.func72 rfl ?_;have e:(([v,.map (some nb),.bool back]:List Value).toArray++Array.replicate (Tryz.f72.ntmps-([v,.map (some nb),.bool back]:List Value).toArray.size) undef)=(wY [v,.map (some nb),.bool back] Tryz.f72.ntmps).toArray:=by simp[wY]
 rw[e];have aNZ:=hV.ptr;obtain⟨xb,rfl,hxl,hxX⟩:=aNZ;have hnl:=hN.lt;simp -dsimp (maxSteps:=4000000) only[push_cast,wY,Tryz.ntmps72,List.length_cons,List.length_nil,Nat.reduceAdd,Nat.reduceSub,Nat.reduceBEq,List.replicate_succ,List.replicate_zero]
 show Code.wp _ _ (bodyPostD Tryz.prog Tryz.f72 (aDx X nm back x w)) _ _
 refine YM (by rfl) ?_;push_cast -dsimp;refine ao (z:=[.slice none 0 0,.slice none 0 0]) (by kernel_rfl) ?_;intro w1 aV;have R1:=aV.aM;have z1:=aV.size;have b1:=aV.below;push_cast -dsimp;refine ao (z:=[.nilIface]) (by kernel_rfl) ?_;intro w2 bH;have E2:=bH.aM;have R2:=R1.below bH.below (by omega);have z2:=bH.size;have b2:=b1.trans (bH.below.mono (by omega));rw[z1]at E2;push_cast -dsimp[z1];refine wp_seq (Hk (cap:=[.tmp 6,.tmp 7]) (by simp) ?_);simp -dsimp only[push_cast];refine Xe (by rfl) ?_;push_cast -dsimp;refine aR ?_;intro w3 cM;have cM:mg w2 w3 200 [.slice none 0 0,.slice none 0 0,.map (some nb),.bool back]:=cM;have z3:=cM.size;have hrb:∃B:Nat,B=w2.heap.size+1:=⟨_,rfl⟩;obtain⟨B,hB⟩:=hrb;have b3:Below w.heap.size w w3:=b2.trans (cM.below.mono (by omega));have R3:=R2.below cM.below R2.lt;have E3:=E2.below cM.below E2.lt;have hZ:∃Z:Nat->Prop,Z=λb=>(X b/\b<w.heap.size)\/b=w.heap.size\/b=w.heap.size+1:=⟨_,rfl⟩;obtain⟨Z,hZ⟩:=hZ;have Fm:Mk B w2.heap.size nb back Z w3 ⟨[],[]⟩ :=
  ⟨⟨_,_,[],cM.aM,Vc.Own.nil (enc:=j9) _ _ (λ_=>rfl) _,Vc.Own.nil (enc:=bN) _ _ (λ_=>rfl) _,rfl,(by intro h;cases h),(by intro h;cases h),(by intro g h;cases h),(by intro i u s h1 h2;simp at h1)⟩,(by omega),(by omega),(by intro s hs;cases hs),(by simp),(by simp)⟩
 have iR:∀b,(Z b\/b=w2.heap.size\/B<=b)->X b\/w.heap.size<=b:=λb hb=>by
  rw[hZ]at hb;rcases hb with (hb|hb|hb)|hb|hb
  ·exact .inl hb.1
  ·exact .inr (by omega)
  ·exact .inr (by omega)
  ·exact .inr (by omega)
  exact .inr (by omega)
 have IT:bC (λb=>Z b\/b=w2.heap.size\/B<=b) w3 (.pointer (some ⟨xb,0,none⟩)) x:=bC.mono (Kept.refl (λ_=>False) w3) (λ_ h=>h.elim) iR (hV.top.below b3);have hN3:fz (λb=>Z b\/b=w2.heap.size\/B<=b) w3 nb nm:=fz.kept (hN.top.below b3) (Kept.refl (λ_=>False) w3) (λ_ h=>h.elim) (λh=>h) iR;push_cast -dsimp;refine aF (M3 x cW bU oV nm jJ hr B w2.heap.size nb back Z Z w3 ⟨[],[]⟩ _ Fm (λb hb=>⟨.inl hb,by rw[hZ]at hb;rcases hb with hb|hb|hb<;>omega⟩) (by omega) hN3 IT (Nat.le_refl _)) ?_ ?_
 ·rintro _ w4 ⟨⟨c4,hM4,N5,CE,hs4⟩,k4⟩;have k4o:=k4.out Fm;have z4:=k4o.size;have R4:=R3.kept k4o (by omega);have E4:=E3.kept k4o (by omega);have b4:=b3.trans (k4o.below b3.size (λi h=>by omega));have CE:c4.ins.length=bF x:=by simpa using CE
  have aQG:c4.sets.length<=c4.ins.length:=by have:=N5.sum;simpa using this
  push_cast -dsimp;refine aF (td hM4 (by omega) ⟨5,0,0⟩) ?_ ?_
  ·rintro _ w5 ⟨hl5,rfl,CW,k5⟩;have k5o:=k5.out hM4;have z5:=k5o.size;have R5:=R4.kept k5o (by omega);have E5:=E4.kept k5o (by omega);have b5:=b4.trans (k5o.below b4.size (λi h=>by omega));have aOc:=CW.st;obtain⟨sv,iv,us,Yn,wZ,jS,uQ,ft,gY,lQ,pq⟩:=aOc;have aNN:=wZ.block;have aNO:=jS.block;have Qb:fy (gi nm) back x (aD.push c4 ⟨5,0,0⟩):=by
    have hlen:=oH c4 ⟨5,0,0⟩;have hy:=rR c4 ⟨5,0,0⟩;rw[CE]at hy;refine⟨?_,by omega,hy,CW.num,?_,CW.few⟩
    ·have h1:=hs4;rw[show ((⟨[],[]⟩:aD).ins.length)=0 from rfl,CE]at h1
     exact dT x _ _ ((Ext.push c4 _).same (by omega)) h1
    show c4.sets.length<=_
    omega
   obtain⟨sa,sc,rfl⟩:=wZ.slice;obtain⟨ia,ic,rfl⟩:=jS.slice;have d5:aB w5 ⟨w2.heap.size,0,none⟩ 0 2=some [.slice sa us.length sc,.slice ia (aD.push c4 ⟨5,0,0⟩).ins.length ic]:=by
    refine ak [.slice sa us.length sc,.slice ia (aD.push c4 ⟨5,0,0⟩).ins.length ic] 0 (λj u hu=>?_);have h0:w5.cell? ⟨w2.heap.size,0,none⟩=some (.slice sa us.length sc):=Yn.cell rfl;have h1:w5.cell? ⟨w2.heap.size,1,none⟩=some (.slice ia (aD.push c4 ⟨5,0,0⟩).ins.length ic):=Yn.cell rfl;match j,hu with
    | 0,hu=>cases hu;simpa using h0
    | 1,hu=>cases hu;simpa using h1
    | _+2,hu=>simp at hu
   push_cast -dsimp[d5];refine aH (xt:=127) (n:=2) (by kernel_rfl) R5 rfl (by decide) (by simp[Value.oneCell']) ?_;intro w6 bQ;have R6:aL w6 w.heap.size 127 [.slice sa us.length sc,.slice ia (aD.push c4 ⟨5,0,0⟩).ins.length ic]:=bQ.aM;have E6:=E5.kept bQ.kept (by omega);have z6:=bQ.size;push_cast -dsimp;refine aC E6 (by simp) rfl ?_;intro w7 fK;have E7:aL w7 (w.heap.size+1) 34 [.nilIface]:=fK.aM;have R7:=R6.kept fK.kept (by omega);have k57:Kept (λi=>i=w.heap.size\/i=w.heap.size+1) w5 w7:=(bQ.kept.weaken (λi _ h=>.inl h)).trans fK.kept (λi _ h=>.inr h);have b7:=b5.trans (k57.below b5.size (λi h=>by omega));have aEh:=wZ.aJ k57 (λg hg h=>by have:=aNN g hg;omega);have aL2:=jS.aJ k57 (λg hg h=>by have:=aNO g hg;omega);have hCV:cL (λb=>X b/\b<w.heap.size) w7 (.agg #[.slice sa us.length sc,.slice ia (aD.push c4 ⟨5,0,0⟩).ins.length ic]) (aD.push c4 ⟨5,0,0⟩) :=
    ⟨_,_,rfl,dp.rO uQ (aEh.sl.weaken (λb h=>by omega)) (λi u s h1 h2=>((pq i u s h1 h2).kept k57 (λj hj=>by rw[hZ];exact .inl (.inr hj))).weaken (λb hb=>by rw[hZ];exact .inl (.inl hb))),aL2.sl.weaken (λb h=>by omega)⟩
   push_cast -dsimp;exact RN (t:=_) (by rfl) (by rfl) R7 E7 rfl (.inl ⟨_,_,rfl,hCV,Qb⟩) b7
  rintro ce w5 ⟨hl5,ht,k5⟩;have k5o:=k5.out hM4;push_cast -dsimp;exact u6 (t:=_) (by rfl) (by rfl) (R4.kept k5o (by omega)) (E4.kept k5o (by omega)) rfl ht (by omega) (b4.trans (k5o.below b4.size (λi h=>by omega)))
 rintro ce w4 ⟨CE,ht,k4⟩;have k4o:=k4.out Fm;push_cast -dsimp;exact u6 (t:=_) (by rfl) (by rfl) (R3.kept k4o (by omega)) (E3.kept k4o (by omega)) rfl ht (by simpa using Nat.lt_succ_of_lt CE) (b3.trans (k4o.below b3.size (λi h=>by omega)))
end Go.Proofs.YtemjejfpadnljaaGreatDoor
end
section
end
section
namespace Go.Proofs.YtemjejfpadnljaaGreatDoor
open Go.Vc Go.Proofs Go.RowKit Cae
attribute [local irreducible] cg aa ag aX runK ar Sl Vc.Own vc aQ br a7
theorem LI {f:dY}{nm:bZ}(h:r8 f=none)(hn:gk [] f.cN=.ok nm):∀r∈f.rules,gx nm r.before=none/\gx nm r.after=none:=by
 unfold r8 at h;rw[hn]at h;dsimp only at h;have h1:gD nm f.rules=none:=by
  cases hr:gD nm f.rules with
  | none=>rfl
  | some e=>rw[hr]at h;cases h
 exact x8.1 h1
theorem dy.aDj {X Y:Nat->Prop}{w w':World}{cs:List Value}{r:bV}(h:dy X w cs r)(hk:Kept Y w w')(hY:∀i,Y i->X i):dy X w' cs r:=h.mono (λb hx aj=>hk.block b aj λhh=>hx (hY b hh)) (λ_ h=>h)
theorem kj.top {X:Nat->Prop}{w:World}{v:Value}{f:dY}(h:kj X w v f):kj (λb=>X b\/w.heap.size<=b) w v f:=by
 obtain⟨cv,rv,cs,rs,rfl,il,jU,hC,hR⟩:=h;exact⟨_,_,cs,rs,rfl,Sl.top (by decide) il,Sl.top (by decide) jU,hC.imp λa c h=>h.top,hR.imp λa c h=>h.top⟩
def rp (X:Nat->Prop)(B:Nat)(f:dY)(r:Value)(w':World):Prop:=match r8 f with
 | some e=>∃v,r=.tuple #[.agg #[.slice none 0 0,.bool false],v]/\yn B (some e) v w'
 | none=>(∃nm p pv,gk [] f.cN=.ok nm/\r=.tuple #[pv,.nilIface]/\gb X w' pv p/\yq (gi nm) f p) \/
  (∃q∈f.rules,(2000<bF q.before+1\/2000<bF q.after+1)/\∃v,r=.tuple #[.agg #[.slice none 0 0,.bool false],v]/\yn B (some (4,q.pos)) v w')
theorem T5.cases {X:Nat->Prop}{nm:bZ}{back:Bool}{x:aG}{w w':World}{r:Value}(h:T5 X nm back x w r w'):∃sv iv ev,r=.tuple #[.agg #[sv,iv],ev]/\sv.oneCell'=true/\iv.oneCell'=true /\
  ((ev=.nilIface/\∃c,cL (λb=>X b/\b<w.heap.size) w' (.agg #[sv,iv]) c/\fy (gi nm) back x c)\/(ev=.iface 74 (.int .i64 4)/\2000<bF x+1)):=by
 rcases h with ⟨c,cv,rfl,hV,hC⟩|⟨hl,rfl⟩
 ·have K4:=hV;obtain⟨sv,iv,rfl,hs,hi⟩:=hV;obtain⟨_,_,rfl,_⟩:=hs.shape;obtain⟨_,_,rfl,_⟩:=hi.shape;exact⟨_,_,_,rfl,rfl,rfl,.inl ⟨rfl,c,K4,hC⟩⟩
 exact⟨_,_,_,rfl,rfl,rfl,.inr ⟨rfl,hl⟩⟩
theorem PN (f:dY)(bU:ES f)(oV:aDB f)(cW:∀r∈f.rules,cO r.before/\cO r.after)(TQ:f.cN.length<=1000000)(hlr:f.rules.length<=1000)(X:Nat->Prop)(v:Value)(w:World)(hv:kj X w v f) :
  ar Tryz.prog 46 [v] w λr w'=>rp (λb=>X b/\b<w.heap.size) w.heap.size f r w'/\Below w.heap.size w w':=by
 have Nw:=hv;obtain⟨cv,rv,cs,rs,rfl,il,jU,hC,hR⟩:=hv;obtain⟨ca,cc,rfl,hcc⟩:=il.shape;obtain⟨ra,rc,rfl,hrc⟩:=jU.shape;have Ka:=dW.len hR;refine gh Tryz.func46 rfl (by kernel_rfl) [.cell 2 71,.tmp 3] rfl ?_;push_cast -dsimp(maxSteps:=4000000) [Tryz.ntmps46];refine aR ?_;intro w1 aV;have aV:mg w w1 26 [.slice ca cs.length cc,.slice ra rs.length rc,.bool f.dD]:=aV;have z1:=aV.size;push_cast -dsimp;refine ao (z:=[.slice none 0 0,.bool false]) (by kernel_rfl) ?_;intro w2 bH;have z2:=bH.size;have iP:=aV.below.trans (bH.below.mono (by omega));have F2:=aV.aM.below bH.below (by omega);have d0:aB w2 ⟨w.heap.size,0,none⟩ 0 3=some [.slice ca cs.length cc,.slice ra rs.length rc,.bool f.dD]:=F2.aB;push_cast -dsimp[d0];refine aA (NV f bU oV TQ (by omega) X _ w2 (Nw.below iP)) ?_;rintro r w3 ⟨hE,gV⟩;have z3:=gV.size;have qK:=iP.trans (gV.mono (by omega));have P3:=bH.aM.below gV (by omega);cases lN:r8 f with
 | some e =>
  rw[lN]at hE;have hE0:=hE;obtain⟨c,e⟩:=e;obtain⟨eb,DU,rfl,Vk⟩:=hE;push_cast -dsimp;refine aH (n:=2) (by kernel_rfl) P3 rfl (by simp) (by simp[Value.oneCell']) ?_;intro w4 ae;have P4:aL w4 w1.heap.size 71 [.slice none 0 0,.bool false]:=ae.aM;have d4:aB w4 ⟨w1.heap.size,0,none⟩ 0 2=some [.slice none 0 0,.bool false]:=P4.aB;push_cast -dsimp[d4];refine⟨?_,qK.trans (ae.kept.below (by omega) (λi h=>by omega))⟩;unfold rp;rw[lN];exact⟨_,rfl,eb,by omega,rfl,Vk.kept ae.kept (by omega)⟩
 | none =>
  rw[lN]at hE;have hE:r=.nilIface:=hE;subst hE;have qP:=LH lN;obtain⟨nm,qP⟩:=qP;have F3:=F2.below gV (by omega);have d3:aB w3 ⟨w.heap.size,0,none⟩ 0 3=some [.slice ca cs.length cc,.slice ra rs.length rc,.bool f.dD]:=F3.aB;push_cast -dsimp[d3];refine aA (OQ f bU.1 TQ _ _ w3 (Nw.top.below qK)) ?_;rintro r w4 ⟨hN,nd⟩;have z4:=nd.size;have je:=qK.trans (nd.mono (by omega));unfold ng at hN;rw[qP]at hN;obtain⟨mb,hmb,rfl,hNV,Yq⟩:=hN;have F4:=F3.below nd (by omega);have e2:w4.cell? ⟨w.heap.size,2,none⟩=some (.bool f.dD):=F4.cell rfl;push_cast -dsimp[e2];refine ao (z:=[.slice none 0 0,.bool false]) (by kernel_rfl) ?_;intro w5 cH;have z5:=cH.size;push_cast -dsimp;refine aH (n:=2) (by kernel_rfl) cH.aM rfl (by simp) (by simp[Value.oneCell']) ?_;intro w6 bQ;have z6:=bQ.size;have Q6:aL w6 w4.heap.size 71 [.slice none 0 0,.bool f.dD]:=bQ.aM;have aIA:Below w4.heap.size w4 w6:=cH.below.trans (bQ.kept.below (by omega) (λi h=>by omega));have P4:=P3.below nd (by omega);have F6:=F4.below aIA (by omega);have f6:w6.cell? ⟨w.heap.size,1,none⟩=some (.slice ra rs.length rc):=F6.cell rfl;have CX:∃Xc:Nat->Prop,Xc=λb=>(X b/\b<w.heap.size)\/b=w1.heap.size\/w4.heap.size<=b:=⟨_,rfl⟩;obtain⟨Xc,CX⟩:=CX;have hN4:fz Xc w4 mb nm:=fz.iZ hNV.top (λb hb=>by
   rw[CX]at hb;rcases hb with hb|hb|hb
   ·exact .inl ⟨.inl hb.1,by omega⟩
   ·exact .inl ⟨.inr (by omega),by omega⟩
   exact .inr hb)
  have hR4:dW (mh Xc w4) rs f.rules:=(hR.imp λa c h=>mh.top h).imp λa c h=>⟨h.1,h.2.1,bC.iZ (h.2.2.1.below je) (λb hb=>by
   rw[CX]at hb;rcases hb with hb|hb|hb
   ·exact .inl hb.1
   ·exact .inr (by omega)
   exact .inr (by omega)),bC.iZ (h.2.2.2.below je) (λb hb=>by
   rw[CX]at hb;rcases hb with hb|hb|hb
   ·exact .inl hb.1
   ·exact .inr (by omega)
   exact .inr (by omega))⟩
  have HI:=LI lN qP;push_cast -dsimp[f6];refine aK [3,9,10,11,12,13,35,36,37,38,39,40,41,42,43,44,45,46,47,48,49,50,51,52,53,54,55,56,57,58,59,60,61,62,63,64,65,66,67,68,69,70,71,72,73,74,75] (λz wx=>∃(i:Nat) (ov:Value) (us:List PV) (l:List bV),z 35=.int .i64 i/\i<=f.rules.length/\aL wx w4.heap.size 71 [ov,.bool f.dD]/\Vc.Own w6.heap.size 129 5 gJ wx ov us/\us.length=l.length/\(∀(k:Nat) (u:PV) (r:bV),us[k]?=some u->l[k]?=some r->dy (λb=>b=w4.heap.size\/b=w1.heap.size\/ov.ownBlock=some b\/(X b/\b<w.heap.size)) wx (gJ u) r)/\dW (λ(r:bV) (q:dG)=>r.brk=q.brk/\fy (gi nm) true q.before r.before/\fy (gi nm) false q.after r.after) l (f.rules.take i)/\Below w4.heap.size w4 wx/\w6.heap.size<=wx.heap.size) (λz _=>f.rules.length-(intOf (z 35)).toNat) ?_ ?_
  ·exact⟨0,_,[],[],rfl,Nat.zero_le _,Q6,Vc.Own.nil (enc:=gJ) _ _ (λ_=>rfl) _,rfl,(by intro k u r h;simp at h),.nil,aIA,Nat.le_refl _⟩
  intro z wx hI;obtain⟨i,ov,us,l,h35,hi,hQ,hO,uQ,pq,hA,Lc,zx⟩:=hI;have fS:=hO.block;have WS:=dW.len hA;rw[List.length_take]at WS;push_cast -dsimp[h35];refine⟨λaj=>?_,λeo=>?_⟩
  ·obtain⟨c,hc,tR,_,ht⟩:=ah (l:=f.rules) (i:=i) (by omega);obtain⟨x,hx,TV,CI,Ke,y7⟩:=yw hR4 hc;have hrx:=(jU.below je).below Lc;obtain⟨b1,o,rfl,mJ,aU⟩:=hrx.get hx;obtain⟨xp,xb,x1,x2⟩:=x;simp only at TV CI Ke y7;subst TV;subst CI;have c4:aB wx ⟨b1,o+i*4,none⟩ 0 4=some [.int .i64 c.pos,.bool c.brk,.pointer (some ⟨x1,0,none⟩),.pointer (some ⟨x2,0,none⟩)]:=ak _ 0 (λj u hu=>by simpa[j8,bw] using aU j u hu);push_cast -dsimp[c4];refine⟨⟨by omega,by omega⟩,?_⟩;refine ao (z:=[.int .i64 0,.bool false,.pointer none,.pointer none]) (by kernel_rfl) ?_;intro wa fu;have za:=fu.size;push_cast -dsimp;refine aH (n:=4) (by kernel_rfl) fu.aM rfl (by simp) (by simp[Value.oneCell']) ?_;intro wb dE;have zb:=dE.size;have Rb:aL wb wx.heap.size 84 [.int .i64 c.pos,.bool c.brk,.pointer (some ⟨x1,0,none⟩),.pointer (some ⟨x2,0,none⟩)]:=dE.aM;have aIH:Below wx.heap.size wx wb:=fu.below.trans (dE.kept.below (by omega) (λi h=>by omega));have Vv:=Lc.trans (aIH.mono (by omega));have r2:wb.cell? ⟨wx.heap.size,2,none⟩=some (.pointer (some ⟨x1,0,none⟩)):=Rb.cell rfl;have CG:=HI c tR;push_cast -dsimp[r2];refine aA (DN c.before (cW c tR).1 (bU.2 c tR).1 (oV c tR).1 nm CG.1 Yq Xc _ mb true wb (Ke.below Vv) (hN4.below Vv)) ?_;rintro _ wc ⟨hK1,vh⟩;have zc:=vh.size;obtain⟨s1,i1,ev1,rfl,o1,p1,hK1⟩:=hK1.cases;have aMH:=aIH.trans (vh.mono (by omega));push_cast -dsimp;refine ao (z:=[.slice none 0 0,.slice none 0 0]) (by kernel_rfl) ?_;intro wd iT;have zd:=iT.size;push_cast -dsimp
   refine aH (n:=2) (by kernel_rfl) iT.aM rfl (by simp) (by simp[o1,p1]) ?_;intro we lE;have ze:=lE.size;have C1e:aL we wc.heap.size 127 [s1,i1]:=lE.aM;have aED:Below wc.heap.size wc we:=iT.below.trans (lE.kept.below (by omega) (λi h=>by omega));have WD:=aMH.trans (aED.mono (by omega));have QZ:=Lc.trans (WD.mono (by omega));have Re:=(Rb.below vh (by omega)).below aED (by omega);have r3:we.cell? ⟨wx.heap.size,3,none⟩=some (.pointer (some ⟨x2,0,none⟩)):=Re.cell rfl;push_cast -dsimp[r3];refine aA (DN c.after (cW c tR).2 (bU.2 c tR).2 (oV c tR).2 nm CG.2 Yq Xc _ mb false we (y7.below QZ) (hN4.below QZ)) ?_;rintro _ wf ⟨hK2,Vz⟩;have zf:=Vz.size;obtain⟨s2,i2,ev2,rfl,o2,p2,hK2⟩:=hK2.cases;have aMI:=WD.trans (Vz.mono (by omega));push_cast -dsimp;refine ao (z:=[.slice none 0 0,.slice none 0 0]) (by kernel_rfl) ?_;intro wg lF;have zg:=lF.size;push_cast -dsimp;refine aH (n:=2) (by kernel_rfl) lF.aM rfl (by simp) (by simp[o2,p2]) ?_;intro wh Kc;have zh:=Kc.size;have C2h:aL wh wf.heap.size 127 [s2,i2]:=Kc.aM;have WA:Below wf.heap.size wf wh:=lF.below.trans (Kc.kept.below (by omega) (λi h=>by omega));have Q8:=aMI.trans (WA.mono (by omega));have zxh:=Q8.size;have Fv:=Lc.trans (Q8.mono (by omega));have Rh:=(Re.below Vz (by omega)).below WA (by omega);have C1h:=(C1e.below Vz (by omega)).below WA (by omega);rcases hK1 with ⟨rfl,k1,hV1,hC1⟩|⟨rfl,xB⟩
   ·rcases hK2 with ⟨rfl,k2,p5,hC2⟩|⟨rfl,od⟩
    ·have dQ:wh.cell? ⟨w4.heap.size,0,none⟩=some ov:=(hQ.below Q8 (by omega)).cell rfl;have r1:wh.cell? ⟨wx.heap.size,1,none⟩=some (.bool c.brk):=Rh.cell rfl;have dC1:aB wh ⟨wc.heap.size,0,none⟩ 0 2=some [s1,i1]:=C1h.aB;have dC2:aB wh ⟨wf.heap.size,0,none⟩ 0 2=some [s2,i2]:=C2h.aB;have aMg:=hV1;have aMi:=p5;obtain⟨sv1,iv1,aIs,aOe,aNj⟩:=aMg;obtain⟨sv2,iv2,aIt,Qr,GD⟩:=aMi;simp only[Value.agg.injEq,Array.mk.injEq,List.cons.injEq,and_true]at aIs aIt;obtain⟨rfl,rfl⟩:=aIs;obtain⟨rfl,rfl⟩:=aIt;obtain⟨a1,n1,rfl,_⟩:=aOe.shape;obtain⟨a2,n2,rfl,_⟩:=aNj.shape;obtain⟨a3,n3,rfl,_⟩:=Qr.shape;obtain⟨a4,n4,rfl,_⟩:=GD.shape;push_cast -dsimp[dQ,r1,dC1,dC2];refine cG vV rfl rfl (by omega) ?_;intro wr hwr;have zr:=hwr.size;have aAm:=Q8.trans (hwr.below.mono (by omega));have hOr:=hO.below aAm;have hQr:=hQ.below aAm (by omega);push_cast -dsimp;refine aW (base:=w6.heap.size) [(⟨c.brk,⟨a1,k1.sets.length,n1⟩,⟨a2,k1.ins.length,n2⟩,⟨a3,k2.sets.length,n3⟩,⟨a4,k2.ins.length,n4⟩⟩:PV)] (enc:=gJ) vV hOr (by rfl) (λj u hu=>by rw[Nat.zero_add];exact hwr.cell hu) vW (by simp only[List.length_cons,List.length_nil];omega) (by omega) ?_;intro vq wq hOq hgq hnq;have HN:Kept (λj=>ov.ownBlock=some j) wr wq:=Kept.grown hgq (λ_ h=>h);have zq:=HN.size;have Gq:=hQr.kept HN (λh=>by have:=fS _ h;omega);have aNP:=hOq.block;obtain⟨qa,qc,rfl⟩:=hOq.slice;push_cast -dsimp;refine aC Gq (by simp) rfl ?_;intro ws hws;have zs:=hws.size
     have Qs:aL ws w4.heap.size 71 [.slice qa (us++[(⟨c.brk,⟨a1,k1.sets.length,n1⟩,⟨a2,k1.ins.length,n2⟩,⟨a3,k2.sets.length,n3⟩,⟨a4,k2.ins.length,n4⟩⟩:PV)]).length qc,.bool f.dD]:=hws.aM;have hOs:=hOq.aJ hws.kept (λg hg h=>by have:=aNP g hg;have h':g=w4.heap.size:=h;omega);have krs:Kept (λj=>j=w4.heap.size\/ov.ownBlock=some j) wr ws:=(HN.weaken (λj _ h=>.inr h)).trans hws.kept (λj _ h=>.inl h);have hY:∃Y:Nat->Prop,Y=λb=>(b=w4.heap.size\/b=w1.heap.size\/ov.ownBlock=some b\/(X b/\b<w.heap.size))\/wr.heap.size<=b:=⟨_,rfl⟩;obtain⟨Y,hY⟩:=hY;have hkY:∀j,(j=w4.heap.size\/ov.ownBlock=some j)->Y j:=λj h=>by
      rw[hY];rcases h with h|h
      ·exact .inl (.inl h)
      exact .inl (.inr (.inr (.inl h)))
     have hYs:∀b,(b=w4.heap.size\/b=w1.heap.size\/(Value.slice qa (us++[(⟨c.brk,⟨a1,k1.sets.length,n1⟩,⟨a2,k1.ins.length,n2⟩,⟨a3,k2.sets.length,n3⟩,⟨a4,k2.ins.length,n4⟩⟩:PV)]).length qc).ownBlock=some b\/(X b/\b<w.heap.size))->Y b:=λb hb=>by
      rw[hY];rcases hb with hb|hb|hb|hb
      ·exact .inl (.inl hb)
      ·exact .inl (.inr (.inl hb))
      ·rcases hnq b hb with h|h
       ·exact .inl (.inr (.inr (.inl h)))
       exact .inr h
      exact .inl (.inr (.inr (.inr hb)))
     have hcw:∀b,b<wr.heap.size->Y b->Xc b/\b<wb.heap.size:=λb hb hy=>by
      rw[hY]at hy;rw[CX];rcases hy with (hy|hy|hy|hy)|hy
      ·exact⟨.inr (.inr (by omega)),by omega⟩
      ·exact⟨.inr (.inl hy),by have:=je.size;omega⟩
      ·have:=fS b hy;exact⟨.inr (.inr (by omega)),by omega⟩
      ·exact⟨.inl hy,by have:=je.size;omega⟩
      omega
     have aMC:Below wc.heap.size wc wr:=aED.trans ((Vz.mono (by omega)).trans ((WA.mono (by omega)).trans (hwr.below.mono (by omega))));have aME:Below wf.heap.size wf wr:=WA.trans (hwr.below.mono (by omega));have aMh:cL Y ws (.agg #[.slice a1 k1.sets.length n1,.slice a2 k1.ins.length n2]) k1:=cL.kept ((hV1.below aMC).narrow hcw) krs hkY;have aMk:cL Y ws (.agg #[.slice a3 k2.sets.length n3,.slice a4 k2.ins.length n4]) k2:=cL.kept ((p5.below aME).narrow (λb hb hy=>by have:=hcw b hb hy;exact⟨this.1,by omega⟩)) krs hkY;have aOl:∀(k:Nat) (u:PV) (r:bV),(us++[(⟨c.brk,⟨a1,k1.sets.length,n1⟩,⟨a2,k1.ins.length,n2⟩,⟨a3,k2.sets.length,n3⟩,⟨a4,k2.ins.length,n4⟩⟩:PV)])[k]?=some u->(l++[(⟨c.brk,k1,k2⟩:bV)])[k]?=some r->dy (λb=>b=w4.heap.size\/b=w1.heap.size\/(Value.slice qa (us++[(⟨c.brk,⟨a1,k1.sets.length,n1⟩,⟨a2,k1.ins.length,n2⟩,⟨a3,k2.sets.length,n3⟩,⟨a4,k2.ins.length,n4⟩⟩:PV)]).length qc).ownBlock=some b\/(X b/\b<w.heap.size)) ws (gJ u) r:=λk u r h1 h2=>by
      have WR:k<(us++[(⟨c.brk,⟨a1,k1.sets.length,n1⟩,⟨a2,k1.ins.length,n2⟩,⟨a3,k2.sets.length,n3⟩,⟨a4,k2.ins.length,n4⟩⟩:PV)]).length:=(List.getElem?_eq_some_iff.1 h1).1;by_cases hk:k<us.length
      ·rw[List.getElem?_append_left hk]at h1;rw[List.getElem?_append_left (by omega)]at h2;have h3:=((pq k u r h1 h2).below aAm).narrow (X':=Y) (λb hb hy=>by
        rw[hY]at hy;rcases hy with hy|hy
        ·exact hy
        omega)
       exact(h3.aDj krs hkY).narrow (λb _ hb=>hYs b hb)
      have eQ:k=us.length:=by rw[List.length_append,List.length_cons,List.length_nil]at WR;omega
      subst eQ;rw[List.getElem?_append_right (Nat.le_refl _),Nat.sub_self]at h1;rw[uQ,List.getElem?_append_right (Nat.le_refl _),Nat.sub_self]at h2;simp at h1 h2;subst h1;subst h2;exact⟨_,_,_,_,rfl,aMh.narrow (λb _ hb=>hYs b hb),aMk.narrow (λb _ hb=>hYs b hb)⟩
     have aMB:Below w4.heap.size w4 ws:=Lc.trans ((aAm.mono (by omega)).trans (krs.below (by omega) (λj h=>by
      rcases h with h|h
      ·omega
      have:=fS j h;omega)))
     push_cast -dsimp;refine⟨⟨by omega,by omega⟩,⟨i+1,_,_,l++[(⟨c.brk,k1,k2⟩:bV)],rfl,by omega,Qs,hOs,by simp[uQ],aOl,by rw[ht];exact dW.snoc hA ⟨rfl,hC1,hC2⟩,aMB,by omega⟩,by rw[h35];simp only[intOf];omega⟩
    skip;push_cast -dsimp;have r0:wh.drew.cell? ⟨wx.heap.size,0,none⟩=some (.int .i64 c.pos):=Rh.drew.cell rfl;have Bu:∀bE,aL bE wx.heap.size 84 [.int .i64 c.pos,.bool c.brk,.pointer (some ⟨x1,0,none⟩),.pointer (some ⟨x2,0,none⟩)]->bE.cell? ⟨wx.heap.size,0,none⟩=some (.int .i64 c.pos):=λbE h=>h.cell rfl;refine vH (.one 0 (.one 1 (.one 2 (.one 3 (.two 4 (.one 5 (.one 6 (.one 7 .done))) 6 (.one 4 (.one 5 (.one 7 .done)))))))) (λw'=>aL w' wx.heap.size 84 [.int .i64 c.pos,.bool c.brk,.pointer (some ⟨x1,0,none⟩),.pointer (some ⟨x2,0,none⟩)]) mixed (by kernel_rfl) Rh.drew ?_;push_cast -dsimp[r0];refine⟨λbE h=>by rw[Bu bE h];exact rfl,?_,?_⟩
    ·refine aR ?_;intro wi gS;have gS:mg wh.drew wi 143 [.int .i64 4,.int .i64 c.pos]:=gS;have zi:wi.heap.size=wh.heap.size+1:=gS.size;have IY:Below wh.heap.size wh wi:=(dI wh).trans (gS.below.mono (Nat.le_refl _));have Ri:=Rh.below IY (by omega);refine⟨Ri,?_⟩;have zo:=Fv.trans (IY.mono (by omega));have Pi:=P4.below zo (by omega);push_cast -dsimp;refine aH (n:=2) (by kernel_rfl) Pi rfl (by simp) (by simp[Value.oneCell']) ?_;intro wj fc;have Pj:aL wj w1.heap.size 71 [.slice none 0 0,.bool false]:=fc.aM;have dj:aB wj ⟨w1.heap.size,0,none⟩ 0 2=some [.slice none 0 0,.bool false]:=Pj.aB;refine⟨Ri.kept fc.kept (by omega),?_⟩;push_cast -dsimp[dj];refine⟨?_,(je.trans (zo.mono (by omega))).trans (fc.kept.below (by have:=zo.size;omega) (λi h=>by omega))⟩;unfold rp;rw[lN];exact .inr ⟨c,tR,.inr od,_,rfl,wh.heap.size,by omega,rfl,gS.aM.kept fc.kept (by show ¬wh.heap.size=w1.heap.size;omega)⟩
    have Pd:=(P4.below Fv (by omega)).drew;refine aH (n:=2) (by kernel_rfl) Pd rfl (by simp) (by simp[Value.oneCell']) ?_;intro wi gS;have zi:wi.heap.size=wh.heap.size:=gS.size;have Pi:aL wi w1.heap.size 71 [.slice none 0 0,.bool false]:=gS.aM;have Ri:=Rh.drew.kept gS.kept (by omega);refine⟨Ri,?_⟩;push_cast -dsimp;refine aR ?_;intro wj fc;have fc:mg wi wj 143 [.int .i64 4,.int .i64 c.pos]:=fc;have Pj:=Pi.below fc.below Pi.lt;have dj:aB wj ⟨w1.heap.size,0,none⟩ 0 2=some [.slice none 0 0,.bool false]:=Pj.aB;refine⟨Ri.below fc.below Ri.lt,?_⟩;push_cast -dsimp[dj];have uH:Below w.heap.size w wh:=je.trans (Fv.mono (by omega));have HM:Kept (λi=>i=w1.heap.size) wh wi:=((Kept.refl (λi=>i=w1.heap.size) wh).drew).trans gS.kept (λ_ _ h=>h);refine⟨?_,(uH.trans (HM.below (by have:=uH.size;omega) (λi h=>by omega))).trans (fc.below.mono (by have:=uH.size;omega))⟩;unfold rp;rw[lN];exact .inr ⟨c,tR,.inr od,_,rfl,wi.heap.size,by have:=uH.size;omega,rfl,fc.aM⟩
   rcases hK2 with ⟨rfl,k2,p5,hC2⟩|⟨rfl,od⟩
   ·skip;push_cast -dsimp;have r0:wh.drew.cell? ⟨wx.heap.size,0,none⟩=some (.int .i64 c.pos):=Rh.drew.cell rfl;have Bu:∀bE,aL bE wx.heap.size 84 [.int .i64 c.pos,.bool c.brk,.pointer (some ⟨x1,0,none⟩),.pointer (some ⟨x2,0,none⟩)]->bE.cell? ⟨wx.heap.size,0,none⟩=some (.int .i64 c.pos):=λbE h=>h.cell rfl;refine vH (.one 0 (.one 1 (.one 2 (.one 3 (.two 4 (.one 5 (.one 6 (.one 7 .done))) 6 (.one 4 (.one 5 (.one 7 .done)))))))) (λw'=>aL w' wx.heap.size 84 [.int .i64 c.pos,.bool c.brk,.pointer (some ⟨x1,0,none⟩),.pointer (some ⟨x2,0,none⟩)]) mixed (by kernel_rfl) Rh.drew ?_;push_cast -dsimp[r0];refine⟨λbE h=>by rw[Bu bE h];exact rfl,?_,?_⟩
    ·refine aR ?_;intro wi gS;have gS:mg wh.drew wi 143 [.int .i64 4,.int .i64 c.pos]:=gS;have zi:wi.heap.size=wh.heap.size+1:=gS.size;have IY:Below wh.heap.size wh wi:=(dI wh).trans (gS.below.mono (Nat.le_refl _));have Ri:=Rh.below IY (by omega);refine⟨Ri,?_⟩;have zo:=Fv.trans (IY.mono (by omega));have Pi:=P4.below zo (by omega);push_cast -dsimp;refine aH (n:=2) (by kernel_rfl) Pi rfl (by simp) (by simp[Value.oneCell']) ?_;intro wj fc;have Pj:aL wj w1.heap.size 71 [.slice none 0 0,.bool false]:=fc.aM;have dj:aB wj ⟨w1.heap.size,0,none⟩ 0 2=some [.slice none 0 0,.bool false]:=Pj.aB;refine⟨Ri.kept fc.kept (by omega),?_⟩;push_cast -dsimp[dj];refine⟨?_,(je.trans (zo.mono (by omega))).trans (fc.kept.below (by have:=zo.size;omega) (λi h=>by omega))⟩;unfold rp;rw[lN];exact .inr ⟨c,tR,.inl xB,_,rfl,wh.heap.size,by omega,rfl,gS.aM.kept fc.kept (by show ¬wh.heap.size=w1.heap.size;omega)⟩
    have Pd:=(P4.below Fv (by omega)).drew;refine aH (n:=2) (by kernel_rfl) Pd rfl (by simp) (by simp[Value.oneCell']) ?_;intro wi gS;have zi:wi.heap.size=wh.heap.size:=gS.size;have Pi:aL wi w1.heap.size 71 [.slice none 0 0,.bool false]:=gS.aM;have Ri:=Rh.drew.kept gS.kept (by omega);refine⟨Ri,?_⟩;push_cast -dsimp;refine aR ?_;intro wj fc;have fc:mg wi wj 143 [.int .i64 4,.int .i64 c.pos]:=fc;have Pj:=Pi.below fc.below Pi.lt;have dj:aB wj ⟨w1.heap.size,0,none⟩ 0 2=some [.slice none 0 0,.bool false]:=Pj.aB;refine⟨Ri.below fc.below Ri.lt,?_⟩;push_cast -dsimp[dj];have uH:Below w.heap.size w wh:=je.trans (Fv.mono (by omega));have HM:Kept (λi=>i=w1.heap.size) wh wi:=((Kept.refl (λi=>i=w1.heap.size) wh).drew).trans gS.kept (λ_ _ h=>h);refine⟨?_,(uH.trans (HM.below (by have:=uH.size;omega) (λi h=>by omega))).trans (fc.below.mono (by have:=uH.size;omega))⟩;unfold rp;rw[lN];exact .inr ⟨c,tR,.inl xB,_,rfl,wi.heap.size,by have:=uH.size;omega,rfl,fc.aM⟩
   skip;push_cast -dsimp;have r0:wh.drew.cell? ⟨wx.heap.size,0,none⟩=some (.int .i64 c.pos):=Rh.drew.cell rfl;have Bu:∀bE,aL bE wx.heap.size 84 [.int .i64 c.pos,.bool c.brk,.pointer (some ⟨x1,0,none⟩),.pointer (some ⟨x2,0,none⟩)]->bE.cell? ⟨wx.heap.size,0,none⟩=some (.int .i64 c.pos):=λbE h=>h.cell rfl;refine vH (.one 0 (.one 1 (.one 2 (.one 3 (.two 4 (.one 5 (.one 6 (.one 7 .done))) 6 (.one 4 (.one 5 (.one 7 .done)))))))) (λw'=>aL w' wx.heap.size 84 [.int .i64 c.pos,.bool c.brk,.pointer (some ⟨x1,0,none⟩),.pointer (some ⟨x2,0,none⟩)]) mixed (by kernel_rfl) Rh.drew ?_;push_cast -dsimp[r0];refine⟨λbE h=>by rw[Bu bE h];exact rfl,?_,?_⟩
   ·refine aR ?_;intro wi gS;have gS:mg wh.drew wi 143 [.int .i64 4,.int .i64 c.pos]:=gS;have zi:wi.heap.size=wh.heap.size+1:=gS.size;have IY:Below wh.heap.size wh wi:=(dI wh).trans (gS.below.mono (Nat.le_refl _));have Ri:=Rh.below IY (by omega);refine⟨Ri,?_⟩;have zo:=Fv.trans (IY.mono (by omega));have Pi:=P4.below zo (by omega);push_cast -dsimp;refine aH (n:=2) (by kernel_rfl) Pi rfl (by simp) (by simp[Value.oneCell']) ?_;intro wj fc;have Pj:aL wj w1.heap.size 71 [.slice none 0 0,.bool false]:=fc.aM;have dj:aB wj ⟨w1.heap.size,0,none⟩ 0 2=some [.slice none 0 0,.bool false]:=Pj.aB;refine⟨Ri.kept fc.kept (by omega),?_⟩;push_cast -dsimp[dj];refine⟨?_,(je.trans (zo.mono (by omega))).trans (fc.kept.below (by have:=zo.size;omega) (λi h=>by omega))⟩;unfold rp;rw[lN];exact .inr ⟨c,tR,.inl xB,_,rfl,wh.heap.size,by omega,rfl,gS.aM.kept fc.kept (by show ¬wh.heap.size=w1.heap.size;omega)⟩
   have Pd:=(P4.below Fv (by omega)).drew;refine aH (n:=2) (by kernel_rfl) Pd rfl (by simp) (by simp[Value.oneCell']) ?_;intro wi gS;have zi:wi.heap.size=wh.heap.size:=gS.size;have Pi:aL wi w1.heap.size 71 [.slice none 0 0,.bool false]:=gS.aM;have Ri:=Rh.drew.kept gS.kept (by omega);refine⟨Ri,?_⟩;push_cast -dsimp;refine aR ?_;intro wj fc;have fc:mg wi wj 143 [.int .i64 4,.int .i64 c.pos]:=fc;have Pj:=Pi.below fc.below Pi.lt;have dj:aB wj ⟨w1.heap.size,0,none⟩ 0 2=some [.slice none 0 0,.bool false]:=Pj.aB;refine⟨Ri.below fc.below Ri.lt,?_⟩;push_cast -dsimp[dj];have uH:Below w.heap.size w wh:=je.trans (Fv.mono (by omega));have HM:Kept (λi=>i=w1.heap.size) wh wi:=((Kept.refl (λi=>i=w1.heap.size) wh).drew).trans gS.kept (λ_ _ h=>h);refine⟨?_,(uH.trans (HM.below (by have:=uH.size;omega) (λi h=>by omega))).trans (fc.below.mono (by have:=uH.size;omega))⟩;unfold rp;rw[lN];exact .inr ⟨c,tR,.inl xB,_,rfl,wi.heap.size,by have:=uH.size;omega,rfl,fc.aM⟩
  rw[List.take_of_length_le (by omega)]at hA;obtain⟨oa,oc,rfl⟩:=hO.slice;have dQ:aB wx ⟨w4.heap.size,0,none⟩ 0 2=some [.slice oa us.length oc,.bool f.dD]:=hQ.aB;have Px:=P4.below Lc (by omega);push_cast -dsimp[dQ];refine aH (n:=2) (by kernel_rfl) Px rfl (by simp) (by simp[Value.oneCell']) ?_;intro wj fc;have Pj:aL wj w1.heap.size 71 [.slice oa us.length oc,.bool f.dD]:=fc.aM;have dj:aB wj ⟨w1.heap.size,0,none⟩ 0 2=some [.slice oa us.length oc,.bool f.dD]:=Pj.aB;have hOj:=hO.aJ fc.kept (λg hg h=>by have:=fS g hg;have h':g=w1.heap.size:=h;omega);have Lg:Below w.heap.size w wx:=je.trans (Lc.mono (by omega));push_cast -dsimp[dj];refine⟨?_,Lg.trans (fc.kept.below (by have:=Lg.size;omega) (λi h=>by omega))⟩;unfold rp;rw[lN];refine .inl ⟨nm,⟨l,f.dD⟩,_,qP,rfl,⟨_,rfl,(um (R:=dy (λb=>X b/\b<w.heap.size) wj) hOj uQ (λk r hr=>?_)).weaken (λb hb=>by have:=hb.2;omega)⟩,rfl,hA⟩;obtain⟨u,hu,_⟩:=ah (l:=us) (i:=k) (by have:=(List.getElem?_eq_some_iff.1 hr).1;omega);exact⟨u,hu,((pq k u r hu hr).aDj fc.kept (λj h=>.inr (.inl h))).narrow (λb _ hb=>.inr (.inr (.inr hb)))⟩
end Go.Proofs.YtemjejfpadnljaaGreatDoor
end
