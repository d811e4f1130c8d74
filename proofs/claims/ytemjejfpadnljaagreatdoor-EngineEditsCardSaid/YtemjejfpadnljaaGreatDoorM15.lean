/- Texts of this claim, merged: RvP, Cd3, Pmir, Cd4, Cd5, Cd6, Pcod4, Cd7, Cd8, Vt, Cd9. -/
import Derived.Test.YtemjejfpadnljaaGreatDoorM14
set_option maxRecDepth 100000
set_option linter.unusedSimpArgs false
set_option linter.unusedVariables false
set_option maxHeartbeats 8000000
namespace Go.Proofs.YtemjejfpadnljaaGreatDoor
open Go.Vc Go.Proofs Go.RowKit Cae
attribute [local irreducible] cZ ab ai aX runK ar Sl Vc.Own vc aS bu aZ
theorem aQ.below {X:Nat->Prop}{w w':World}{l:List aG}{vs:List Nat}(h:aQ X w vs l)(hb:Below w.heap.size w w'):aQ X w' vs l :=
 aQ.mono (X:=λb=>X b\/w.heap.size<=b) (Y:=λb=>w.heap.size<=b) (Kept.aN hb (λi h1 h2=>h1)) (λ_ h=>.inr h) (λ_ h=>.inl h) h.top
theorem aQ.reverse {X:Nat->Prop}{w:World}:∀{l:List aG} {vs:List Nat},aQ X w vs l->aQ X w vs.reverse l.reverse
 | [],[],_=>by simp only[List.reverse_nil,aQ]
 | [],_::_,h=>by simp only[aQ]at h
 | _::_,[],h=>by simp only[aQ]at h
 | x::l,v::vs,h=>by
  simp only[aQ]at h;rw[List.reverse_cons,List.reverse_cons];exact aQ.snoc (aQ.reverse h.2) h.1
theorem NA (l:List Nat)(base:Nat)(v:Value)(w:World)(hn:l.length<1000000000)(ho:Vc.Own base 82 1 fm w v l)(HY:base<=w.heap.size) :
  ar Tryz.prog 137 [v] w λ_ w'=>Vc.Own base 82 1 fm w' v l.reverse/\Kept (λj=>v.ownBlock=some j) w w':=by
 obtain⟨a,c,rfl⟩:=ho.slice;refine aE Tryz.func137 rfl (by kernel_rfl) [] rfl ?_;push_cast -dsimp(maxSteps:=9^7) [Tryz.ntmps137];refine⟨⟨by omega,by omega⟩,?_⟩;refine aK [2,3,7,8,9,10,11,12,13,14,15,16,17,18,19,20,21,22,23,24,25,26,27] (λz wx=>∃(i:Nat) (cur:List Nat),z 2=.int .i64 i/\z 3=.int .i64 ((l.length:Int)-1-i)/\2*i<=l.length/\cur.length=l.length/\(∀k,k<l.length->cur[k]?=if k<i\/l.length-i<=k then l[l.length-1-k]? else l[k]?)/\Vc.Own base 82 1 fm wx (.slice a l.length c) cur/\Kept (λj=>(Value.slice a l.length c).ownBlock=some j) w wx) (λz _=>l.length-(intOf (z 2)).toNat) ?_ ?_
 ·exact⟨0,l,rfl,by simp[at_],by omega,rfl,λk hk=>by rw[if_neg (by omega)],ho,Kept.refl _ _⟩
 intro z wx hI;obtain⟨i,cur,h2,h3,hi,iQ,GU,eG,hb⟩:=hI;have ya:=hb.size;push_cast -dsimp[h2,h3];refine⟨λao=>?_,λeY=>?_⟩
 ·have hex:∃(x y:Nat) (g:Nat),cur[i]?=some x/\cur[l.length-1-i]?=some y/\a=some ⟨g,0,none⟩/\wx.cell? ⟨g,i,none⟩=some (bx x)/\wx.cell? ⟨g,l.length-1-i,none⟩=some (bx y):=by
   obtain⟨x,hx,_⟩:=ae (l:=cur) (i:=i) (by omega);obtain⟨y,hy,_⟩:=ae (l:=cur) (i:=l.length-1-i) (by omega);have il:=eG.sl.get hx;have DA:=eG.sl.get hy;obtain⟨b,o,e,_,hcx⟩:=il;obtain⟨b',o',e',_,OC⟩:=DA;rw[e]at e';cases e';have ho0:o=0:=Vc.Own.Zg (by rw[<-e];exact eG);subst ho0;exact⟨x,y,b,hx,hy,e,by simpa using hcx 0 _ rfl,by simpa using OC 0 _ rfl⟩
  obtain⟨x,y,g,hx,hy,he,cx,cy⟩:=hex;subst he;have ej:((l.length:Int)-1-i)=((l.length-1-i:Nat):Int):=by omega
  rw[ej];unfold bx at cx cy;refine Bz [0,1,2,3,4,5,6,7,8,9,10,11,12] 13 [14,15] (λw'=>w'=wx.drew) mixed (by kernel_rfl) rfl ?_;have cx':wx.drew.cell? ⟨g,i,none⟩=some (.pointer (some ⟨x,0,none⟩)):=cx;have cy':wx.drew.cell? ⟨g,l.length-1-i,none⟩=some (.pointer (some ⟨y,0,none⟩)):=cy;have hod:Vc.Own base 82 1 fm wx.drew (.slice (some ⟨g,0,none⟩) l.length c) cur:=eG.aJ (Kept.refl (λ_=>False) _).drew (λ_ _ h=>h);push_cast -dsimp[cx',cy'];refine⟨⟨by omega,by omega⟩,λbB hC=>by rw[hC,cy'];exact rfl,⟨by omega,by omega⟩,λbB hC=>by rw[hC,cx'];exact rfl,⟨by omega,by omega⟩,?_⟩;refine vQ (i:=i) (y:=y) hod rfl (by omega) rfl rfl ?_;intro w1 uU OK pY;refine⟨trivial,?_⟩;push_cast -dsimp;refine⟨⟨by omega,by omega⟩,?_⟩;have vX:l.length-1-i<(cur.set i y).length:=by rw[List.length_set];omega
  have mg:(cur.set i y).length=cur.length:=List.length_set;refine vQ (i:=l.length-1-i) (y:=x) uU rfl vX rfl rfl ?_;intro w2 lF lV Bn;have hkd:Kept (λj=>(Value.slice (some ⟨g,0,none⟩) l.length c).ownBlock=some j) wx w2:=(((Kept.refl (λj=>j=g) wx).drew).trans OK (λ_ _ h=>h)).trans lV (λ_ _ h=>h) |>.weaken (λj _ h=>by rw[h];rfl);refine⟨trivial,?_⟩;push_cast -dsimp;refine⟨⟨by omega,by omega⟩,⟨by omega,by omega⟩,⟨i+1,(cur.set i y).set (l.length-1-i) x,rfl,by congr 1;omega,by omega,by rw[List.length_set,List.length_set];exact iQ,λk hk=>?_,lF,hb.trans hkd (λ_ _ h=>h)⟩,by rw[h2];simp only[intOf];omega⟩;rw[List.getElem?_set,List.getElem?_set];have Cy:=GU i (by omega);have qU:=GU (l.length-1-i) (by omega);rw[if_neg (by omega)]at Cy qU;rw[hx]at Cy;rw[hy]at qU;by_cases e1:l.length-1-i=k
  ·rw[if_pos e1,if_pos vX,if_pos (by omega),Cy];congr 1;omega
  rw[if_neg e1];by_cases e2:i=k
  ·rw[if_pos e2,if_pos (by omega),if_pos (by omega),qU];congr 1;omega
  rw[if_neg e2,GU k hk];by_cases e3:k<i\/l.length-i<=k
  ·rw[if_pos e3,if_pos (by omega)]
  rw[if_neg e3,if_neg (by omega)]
 have aFO:cur=l.reverse:=by
  apply List.ext_getElem?;intro k;by_cases hk:k<l.length
  ·rw[GU k hk,List.getElem?_reverse hk];split
   ·rfl
   congr 1;omega
  rw[List.getElem?_eq_none (by omega),List.getElem?_eq_none (by rw[List.length_reverse];omega)]
 subst aFO;exact⟨eG,hb⟩
end Go.Proofs.YtemjejfpadnljaaGreatDoor
namespace Cae
theorem lQ:∀(l m:List aG),bl (l++m)=bl l+bl m
 | [],m=>by simp[bl]
 | x::l,m=>by rw[List.cons_append,bl,bl,lQ l m];omega
theorem iL:∀(l:List aG),bl l.reverse=bl l
 | []=>rfl
 | x::l=>by rw[List.reverse_cons,lQ,iL l,bl,bl,bl];omega
theorem zl (l:List aG)(i:Nat){y:aG}(h:l[i]?=some y):bl (l.take i)+bG y<=bl l/\bl (l.take (i+1))=bl (l.take i)+bG y:=by
 obtain⟨ao,he⟩:=List.getElem?_eq_some_iff.1 h;have e1:l.take (i+1)=l.take i++[y]:=by rw[List.take_add_one,h];rfl
 have e2:bl (l.take (i+1))=bl (l.take i)+bG y:=by rw[e1,lQ];simp[bl]
 have e3:bl l=bl (l.take (i+1))+bl (l.drop (i+1)):=by rw[<-lQ,List.take_append_drop]
 exact⟨by omega,e2⟩
section
variable {has:ax->Int->Prop} {c c':aD} {back:Bool}
theorem KI {back:Bool}:∀(l m:List aG) (a b:Nat),jz has c back (l++m) a b↔∃k,jz has c back l a k/\jz has c back m k b
 | [],m,a,b=>by simp[jz]
 | x::l,m,a,b=>by
  simp only[List.cons_append,jz,KI l m];constructor
  ·rintro⟨k,h1,j,h2,h3⟩;exact⟨j,⟨k,h1,h2⟩,h3⟩
  rintro⟨j,⟨k,h1,h2⟩,h3⟩;exact⟨k,h1,j,h2,h3⟩
def y8 (has:ax->Int->Prop)(c:aD)(back:Bool)(l:List aG)(n a b:Nat):Prop:=if back then nU has c back (l.drop (l.length-n)) a b else jz has c back (l.take n) a b
def oR (back:Bool)(l:List aG):List aG:=if back then l.reverse else l
theorem uz (l:List aG):(oR back l).length=l.length:=by unfold oR;split<;>simp
theorem EY {l:List aG}{a:Nat}:y8 has c back l 0 a a:=by
 unfold y8;split
 ·simp[nU]
 simp[jz]
theorem KK {l:List aG}{a b:Nat}:y8 has c back l l.length a b↔iD has c back (.cat l) a b:=by
 unfold y8;simp only[iD,Nat.sub_self,List.drop_zero,List.take_length]
theorem EX {l:List aG}{n:Nat}{x:aG}{a m b:Nat}(hx:(oR back l)[n]?=some x)(h1:y8 has c back l n a m)(h2:iD has c back x m b):y8 has c back l (n+1) a b:=by
 unfold y8 at h1 ⊢
 unfold oR at hx;by_cases hb:back=true
 ·rw[if_pos hb]at h1 hx ⊢
  have hn:n<l.length:=by have:=(List.getElem?_eq_some_iff.1 hx).1;rw[List.length_reverse]at this;exact this
  rw[List.getElem?_reverse hn]at hx;have ao:l.length-(n+1)<l.length:=by omega
  have e:l.drop (l.length-(n+1))=x::l.drop (l.length-n):=by
   rw[List.drop_eq_getElem_cons ao];have e1:l.length-(n+1)+1=l.length-n:=by omega
   rw[e1];congr 1;have e2:l.length-1-n=l.length-(n+1):=by omega
   rw[e2,List.getElem?_eq_getElem ao]at hx;exact Option.some.inj hx
  rw[e];simp only[nU];exact⟨m,h1,h2⟩
 rw[if_neg hb]at h1 hx ⊢
 have e:l.take (n+1)=l.take n++[x]:=by rw[List.take_add_one,hx];rfl
 rw[e,KI];exact⟨m,h1,b,h2,by simp[jz]⟩
theorem EW {l:List aG}{n a b:Nat}(hs:eK c c' a b)(h:y8 has c back l n a b):y8 has c' back l n a b:=by
 unfold y8 at h ⊢
 by_cases hb:back=true
 ·rw[if_pos hb]at h ⊢;exact wW _ a b hs h
 rw[if_neg hb]at h ⊢;exact wX _ a b hs h
end
end Cae
namespace Cae
theorem tN {nm:ba}:∀{l:List aG},iX nm l=none↔∀x∈l,gy nm x=none
 | []=>by simp[iX]
 | x::l=>by
  rw[iX,List.forall_mem_cons,<-tN (l:=l)];cases gy nm x with
  | some e=>simp
  | none=>simp
theorem xr {nm:ba}:∀{l:List dJ},gE nm l=none↔∀r∈l,gy nm r.before=none/\gy nm r.after=none
 | []=>by simp[gE]
 | r::l=>by
  rw[gE,List.forall_mem_cons,<-xr (l:=l),ET];cases gy nm r.before with
  | some e=>simp
  | none =>
   cases gy nm r.after with
   | some e=>simp
   | none=>simp
end Cae
namespace Go.Proofs.YtemjejfpadnljaaGreatDoor
open Go.Vc Go.Proofs Go.RowKit Cae
attribute [local irreducible] cZ ab ai aX runK ar Sl Vc.Own vc aS bu aZ
theorem Ext.same {c c':aD}(h:Ext c c'){a b:Nat}(hb:b<=c.ins.length):eK c c' a b:=⟨λk h1 h2=>by
 rw[List.getElem?_eq_getElem (show k<c.ins.length by omega)]
 exact h.ins k _ (List.getElem?_eq_getElem (by omega)),h.sets⟩
theorem gA.kept {X Y X':Nat->Prop}{w w':World}{b:Nat}{nm:ba}(h:gA X w b nm)(hk:Kept Y w w')(hY:∀i,Y i->X i)(hb:¬Y b)(hX:∀i,X' i->X i):gA X' w' b nm:=by
 obtain⟨gb,h2,h3⟩:=h;exact⟨gb,h2.kept hk hb,h3.imp λa b h=>⟨h.1,(h.2.1.kept hk hY).weaken hX,h.2.2⟩⟩
def nr (x:aG):Prop:=bK x->wd x<=100000->∀(nm:ba),gy nm x=none->jM nm->∀(B mb nb:Nat) (back:Bool) (X Z:Nat->Prop) (w:World) (c:aD) (v:Value),Mk B mb nb back X w c->(∀b,X b->(Z b\/b=mb\/B<=b)/\b<w.heap.size)->nb<mb->gA (λb=>Z b\/b=mb\/B<=b) w nb nm->bE (λb=>Z b\/b=mb\/B<=b) w v x->c.sets.length<=c.ins.length ->
 yE Tryz.prog 111 [.pointer (some ⟨mb,0,none⟩),v] w
  (λr w'=>(∃c',Mk B mb nb back X w' c'/\Ext c c'/\c'.ins.length=c.ins.length+bG x/\iD (gj nm) c' back x c.ins.length c'.ins.length)/\gN mb w w')
  (λce w'=>2000<c.ins.length+bG x/\LP 4 ce/\gN mb w w')
theorem Mk.own {B mb nb:Nat}{back:Bool}{X Z:Nat->Prop}{w:World}{c:aD}{sv iv:Value}{us:List SV}(h:Mk B mb nb back X w c)(hM:MkB B mb nb back X w c sv iv us)(hX:∀b,X b->(Z b\/b=mb\/B<=b)/\b<w.heap.size){b:Nat}(hb:X b\/b=mb\/sv.ownBlock=some b\/iv.ownBlock=some b):(Z b\/b=mb\/B<=b)/\b<w.heap.size :=
 hb.elim (hX b) λhb=>⟨.inr (h.mw ((eQ hM.1).2 hb)).1,(h.mw ((eQ hM.1).2 hb)).2⟩
theorem aEm (k:ax):nr (.one k):=by
 intro bO od nm jJ hr B mb nb back X Z w c v h hX mO hN hV q8;simp only[bK]at bO;simp only[bE]at hV;obtain⟨xb,u,rfl,C0,hB,hK⟩:=hV;obtain⟨kb,rfl,Di⟩:=hK.ptr;have jJ:∃s,cD nm k=.ok s:=by
  simp only[gy]at jJ;cases hk:cD nm k with
  | ok s=>exact⟨s,rfl⟩
  | error e=>rw[hk]at jJ;cases jJ
 obtain⟨s,hs⟩:=jJ;have cJ:=h.st;obtain⟨sv,iv,us,hM⟩:=cJ;have ZV:=hM.1;have ao:=h.lt;have hle:=h.le;have d0:w.cell? ⟨xb,0,none⟩=some (.int .i64 1):=hB.cell rfl;refine bI Tryz.func111 rfl (by kernel_rfl) [] rfl ?_;push_cast -dsimp(maxSteps:=9^7) [Tryz.ntmps111];push_cast -dsimp[d0];have d1:w.drew.cell? ⟨xb,1,none⟩=some (.pointer (some ⟨kb,0,none⟩)):=hB.drew.cell rfl;have d2:w.drew.cell? ⟨mb,2,none⟩=some (.map (some nb)):=ZV.drew.cell rfl;refine b8 (λw'=>aM w' xb 158 [.int .i64 1,.pointer (some ⟨kb,0,none⟩),.slice none 0 0,.int .i64 0,.int .i64 0]/\aM w' mb 200 [sv,iv,.map (some nb),.bool back]) mixed (by kernel_rfl) ⟨hB.drew,ZV.drew⟩ ?_;push_cast -dsimp[d1,d2];refine⟨λbB h=>by rw[h.1.cell (o:=1) rfl];exact rfl,λbB h=>by rw[h.2.cell (o:=2) rfl];exact rfl,?_⟩;have pz:=cQ w;refine aA (FG k bO nm hr (λb=>Z b\/b=mb\/B<=b) _ nb w.drew (hK.drew) (hN.below pz)) ?_;rintro r w1 ⟨hR,fe⟩;have RA:Below w.heap.size w w1:=pz.trans (fe.mono (Nat.le_refl _));have z1:=RA.size;unfold cz at hR;rw[hs]at hR;obtain⟨kv,rfl,AS,H4⟩:=hR;have hkr:=eW hr bO hs;refine⟨⟨hB.below RA hB.lt,ZV.below RA ZV.lt⟩,?_⟩;obtain⟨ka,kc,rfl,hkc⟩:=AS.shape;push_cast -dsimp;have h1:=h.below RA;have Kr:=hM.below RA;have k1:gN mb w w1:=gN.below RA (by omega);refine aF (Og h1 Kr q8 s hkr _ (AS.weaken (λb hb=>h.own hM hX hb))) ?_ ?_
 ·rintro _ w2 ⟨hl,⟨c',i,GH,hE,hlen,DC,tD⟩,k2⟩;push_cast -dsimp;refine⟨⟨c',GH,hE,by simp only[bG];exact hlen,?_⟩,k1.trans k2⟩;simp only[iD];refine⟨hlen,i,s,DC,tD,λp=>?_⟩;unfold gj;constructor
  ·intro hp;exact⟨s,hs,hp⟩
  rintro⟨t,ht,hp⟩;rw[hs]at ht;cases ht;exact hp
 rintro ce w2 ⟨hl,ht,k2⟩;push_cast -dsimp;exact⟨by simp only[bG];omega,ht,k1.trans k2⟩
theorem VC (vs:List Nat)(hl:vs.length<1000000000)(X:Nat->Prop)(v:Value)(w:World)(hv:Sl X 1 (En fm) w v vs) :
  ar Tryz.prog 136 [v] w λr w'=>Vc.Own w.heap.size 82 1 fm w' r vs/\Below w.heap.size w w':=by
 obtain⟨a,c,rfl,hc⟩:=hv.shape;refine aE Tryz.func136 rfl (by kernel_rfl) [2] rfl ?_;push_cast -dsimp(maxSteps:=9^7) [Tryz.ntmps136];cases a with
 | none =>
  have:vs=[]:=by
   cases vs with
   | nil=>rfl
   | cons y ys=>obtain⟨b,o,h,_⟩:=hv.get (i:=0) (x:=y) rfl;cases h
  subst this;push_cast -dsimp[aDe];exact⟨Vc.Own.nil (enc:=fm) _ _ (λ_=>rfl) _,Below.refl _ _⟩
 | some ad =>
  push_cast -dsimp[aDf];refine cH fc rfl rfl (by omega) ?_;intro w1 aU;have uU:=aU.own (base:=w.heap.size) (k:=1) (n:=0) (enc:=fm) (l:=[]) rfl rfl (λ_=>rfl) (Nat.le_refl _) (by omega);have pY:=aU.size;push_cast -dsimp;refine lp (base:=w.heap.size) (enc:=fm) (ys:=vs) fc uU (hv.below aU.below) (λn c h=>by cases h) mK (by simp only[List.length_nil];omega) (by omega) ?_;intro v' w2 lF Cz dh;rw[List.nil_append]at lF;push_cast -dsimp;exact⟨lF,aU.below.trans dh⟩
theorem aEk:nr .any:=by
 intro bO od nm jJ hr B mb nb back X Z w c v h hX mO hN hV q8;simp only[bE]at hV;obtain⟨xb,rfl,C0,hB⟩:=hV;have cJ:=h.st;obtain⟨sv,iv,us,hM⟩:=cJ;have ao:=h.lt;have hle:=h.le;have d0:w.cell? ⟨xb,0,none⟩=some (.int .i64 2):=hB.cell rfl;refine bI Tryz.func111 rfl (by kernel_rfl) [] rfl ?_;push_cast -dsimp(maxSteps:=9^7) [Tryz.ntmps111];push_cast -dsimp[d0];refine cH fK rfl rfl (by omega) ?_;intro w1 aU;have z1:=aU.size;have uU:Vc.Own w.heap.size 208 2 bA w1 (.slice (some ⟨w.heap.size,0,none⟩) 1 1) [((0:Int),(1114111:Int))]:=aU.own (by rfl) rfl (λ_=>rfl) (Nat.le_refl _) (by omega);have h1:=h.below aU.below;have Kr:=hM.below aU.below;have k1:gN mb w w1:=gN.below aU.below (by omega);push_cast -dsimp;refine aF (Og h1 Kr q8 [((0:Int),(1114111:Int))] (by decide) _ (?_:Sl _ 2 (En bA) w1 _ [((0:Int),(1114111:Int))])) ?_ ?_
 ·exact uU.sl.weaken (λb hb=>(h.own hM hX hb).2)
 ·rintro _ w2 ⟨hl,⟨c',i,GH,hE,hlen,DC,tD⟩,k2⟩;push_cast -dsimp;refine⟨⟨c',GH,hE,by simp only[bG];exact hlen,?_⟩,k1.trans k2⟩;simp only[iD];exact⟨hlen,i,_,DC,tD,λp hp0 H9=>by simp[fA];omega⟩
 rintro ce w2 ⟨hl,ht,k2⟩;push_cast -dsimp;exact⟨by simp only[bG];omega,ht,k1.trans k2⟩
theorem Zv:nr .gh:=by
 intro bO od nm jJ hr B mb nb back X Z w c v h hX mO hN hV q8;simp only[bE]at hV;obtain⟨xb,rfl,C0,hB⟩:=hV;have Wu:=h.num;have d0:w.cell? ⟨xb,0,none⟩=some (.int .i64 3):=hB.cell rfl;refine bI Tryz.func111 rfl (by kernel_rfl) [] rfl ?_;push_cast -dsimp(maxSteps:=9^7) [Tryz.ntmps111];push_cast -dsimp[d0];refine aF (tn h (by omega) ⟨4,0,0⟩) ?_ ?_
 ·rintro _ w1 ⟨hl,rfl,Kr,k1⟩;push_cast -dsimp;refine⟨⟨_,Kr,Ext.push c _,by simp[aD.push,bG],?_⟩,k1⟩;simp only[iD];refine⟨by simp[aD.push],?_⟩
  show (c.ins++[_])[c.ins.length]?=_
  rw[List.getElem?_append_right (Nat.le_refl _),Nat.sub_self];rfl
 rintro ce w1 ⟨hl,ht,k1⟩;push_cast -dsimp;exact⟨by simp only[bG];omega,ht,k1⟩
theorem aEl (l:List aG)(dD:∀y∈l,nr y):nr (.cat l):=by
 intro bO od nm jJ hr B mb nb back X Z w c v h hX mO hN hV q8;simp only[bK]at bO;simp only[gy]at jJ;have Ha:=tN.1 jJ;simp only[bE]at hV;obtain⟨xb,psv,vs,rfl,C0,hB,hs,hVl⟩:=hV;have hvl:=hVl.len;have CX:=Eg (l:=l);have aOH:=CX.2.1;have cJ:=h.st;obtain⟨sv,iv,us,hM⟩:=cJ;have ZV:=hM.1;have ao:=h.lt;have hle:=h.le;obtain⟨pa,pc,rfl,aFL⟩:=hs.shape;have d0:w.cell? ⟨xb,0,none⟩=some (.int .i64 4):=hB.cell rfl;have d2:w.cell? ⟨xb,2,none⟩=some (.slice pa vs.length pc):=hB.cell rfl;refine bI Tryz.func111 rfl (by kernel_rfl) [] rfl ?_;push_cast -dsimp(maxSteps:=9^7) [Tryz.ntmps111];push_cast -dsimp[d0,d2];refine aA (VC vs (by omega) _ _ w hs) ?_;rintro cv w1 ⟨hC,fe⟩;have z1:=fe.size;have hcb:=hC.block;have hV1:=aQ.below hVl fe;have e3:w1.cell? ⟨mb,3,none⟩=some (.bool back):=(ZV.below fe ZV.lt).cell rfl;cases back with
 | false =>
  obtain⟨ca,cc,rfl⟩:=hC.slice;push_cast -dsimp[e3];have W8:=fe;have zS:=W8.size;have hS:=h.below W8;have kS:gN mb w (w1):=gN.below W8 (by omega);have hwS:∀i,Mw (w1) mb i->i<w.heap.size:=λi hi=>by
   rcases kS.own i hi with h1|h1
   ·exact(h.mw h1).2
   have h2:=(hS.mw hi).2;have hN0:∀j,Mw (w1) mb j->Mw w mb j:=λj hj=>by
    rcases hj with hj|⟨o,v,e1,e2⟩
    ·exact .inl hj
    refine .inr ⟨o,v,?_,e2⟩;rw[<-W8.cell (p:=⟨mb,o,none⟩) (by show mb<_;omega)]
    exact e1
   exact(h.mw (hN0 i hi)).2
  have hNS:=hN.below W8;have WX:vs.length=l.length:=by simp[hvl]
  refine aK [8,63,64,65,66,67,68,69,70] (λz wx=>∃(i:Nat) (ci:aD),z 63=.int .i64 i/\i<=l.length/\Mk B mb nb false X wx ci/\Ext c ci/\ci.ins.length=c.ins.length+bl ((oR false l).take i)/\y8 (gj nm) ci false l i c.ins.length ci.ins.length/\gN mb (w1) wx) (λz _=>l.length-(intOf (z 63)).toNat) ?_ ?_
  ·exact⟨0,c,rfl,Nat.zero_le _,hS,Ext.refl c,by simp[bl],EY,gN.refl (by omega)⟩
  intro z wx hI;obtain⟨i,ci,h63,hi,CL,CK,JH,oI,kx⟩:=hI;have Rv:=kx.out hS;have zx:=kx.kept.size;push_cast -dsimp[h63];refine⟨λao=>?_,λeY=>?_⟩
  ·obtain⟨y,hy,Dp,_,_⟩:=ae (l:=oR false l) (i:=i) (by rw[uz];omega);have hyl:y∈l:=by unfold oR at Dp;split at Dp<;>first|exact List.mem_reverse.1 Dp|exact Dp
   obtain⟨u,hu,hVy⟩:=aQ.nth (hV1) hy;have hVx:bE (λb=>Z b\/b=mb\/B<=b) wx (bx u) y:=bE.mono Rv (λ_ h=>.inr h) (λ_ h=>h) hVy;have hNx:gA (λb=>Z b\/b=mb\/B<=b) wx nb nm:=gA.kept hNS Rv (λ_ h=>.inr h) (λh=>by rcases h with h|h<;>omega) (λ_ h=>h);obtain⟨b1,o,rfl,_,aP⟩:=(Sl.kept (hC.sl) kx.kept (λj hj=>hwS j hj)).get hu;have c0:wx.cell? ⟨b1,o+i,none⟩=some (.pointer (some ⟨u,0,none⟩)):=by simpa[fm,bx] using aP 0 _ rfl
   have iQ:=zl (oR false l) i hy;have hco:bl (oR false l)=bl l:=by unfold oR;split<;>first|exact iL l|rfl
   push_cast -dsimp[c0];refine⟨⟨by omega,by omega⟩,?_⟩;refine aF (dD y hyl (iw bO hyl) (by have:=CX.2.2 y hyl;omega) nm (Ha y hyl) hr B mb nb false X Z wx ci _ CL (λb hb=>by have:=hX b hb;exact⟨this.1,by omega⟩) mO hNx hVx (by have:=CK.sum;omega)) ?_ ?_
   ·rintro _ wy ⟨⟨cy,hMy,Nw,hly,p8⟩,ky⟩;push_cast -dsimp;refine⟨⟨by omega,by omega⟩,⟨i+1,cy,rfl,by omega,hMy,CK.trans Nw,by rw[hly,JH,iQ.2];omega,EX hy (EW (Nw.same (Nat.le_refl _)) oI) p8,kx.trans ky⟩,by rw[h63];simp only[intOf];omega⟩
   rintro ce wy ⟨oy,ht,ky⟩;push_cast -dsimp;exact⟨by simp only[bG];omega,ht,(kS.trans kx).trans ky⟩
  have Iz:i=l.length:=by omega
  subst Iz;rw[List.take_of_length_le (by rw[uz];exact Nat.le_refl _)]at JH;have hco:bl (oR false l)=bl l:=by unfold oR;split<;>first|exact iL l|rfl
  exact⟨⟨ci,CL,CK,by simp only[bG];omega,KK.1 oI⟩,kS.trans kx⟩
 | true =>
  push_cast -dsimp[e3];refine aA (NA vs _ cv w1 (by omega) hC (by omega)) ?_;rintro _ w2 ⟨hD,lV⟩;have dh:Below w.heap.size w w2:=fe.trans (lV.below (by omega) (λi h=>(hcb i h).1));have pw:aQ (λb=>Z b\/b=mb\/B<=b) w2 vs.reverse l.reverse:=aQ.reverse (hVl.below dh);obtain⟨ca,cc,rfl⟩:=hD.slice;push_cast -dsimp;have W8:=dh;have zS:=W8.size;have hS:=h.below W8;have kS:gN mb w (w2):=gN.below W8 (by omega);have hwS:∀i,Mw (w2) mb i->i<w.heap.size:=λi hi=>by
   rcases kS.own i hi with h1|h1
   ·exact(h.mw h1).2
   have h2:=(hS.mw hi).2;have hN0:∀j,Mw (w2) mb j->Mw w mb j:=λj hj=>by
    rcases hj with hj|⟨o,v,e1,e2⟩
    ·exact .inl hj
    refine .inr ⟨o,v,?_,e2⟩;rw[<-W8.cell (p:=⟨mb,o,none⟩) (by show mb<_;omega)]
    exact e1
   exact(h.mw (hN0 i hi)).2
  have hNS:=hN.below W8;have WX:vs.reverse.length=l.length:=by simp[hvl]
  refine aK [8,63,64,65,66,67,68,69,70] (λz wx=>∃(i:Nat) (ci:aD),z 63=.int .i64 i/\i<=l.length/\Mk B mb nb true X wx ci/\Ext c ci/\ci.ins.length=c.ins.length+bl ((oR true l).take i)/\y8 (gj nm) ci true l i c.ins.length ci.ins.length/\gN mb (w2) wx) (λz _=>l.length-(intOf (z 63)).toNat) ?_ ?_
  ·exact⟨0,c,rfl,Nat.zero_le _,hS,Ext.refl c,by simp[bl],EY,gN.refl (by omega)⟩
  intro z wx hI;obtain⟨i,ci,h63,hi,CL,CK,JH,oI,kx⟩:=hI;have Rv:=kx.out hS;have zx:=kx.kept.size;push_cast -dsimp[h63];refine⟨λao=>?_,λeY=>?_⟩
  ·obtain⟨y,hy,Dp,_,_⟩:=ae (l:=oR true l) (i:=i) (by rw[uz];omega);have hyl:y∈l:=by unfold oR at Dp;split at Dp<;>first|exact List.mem_reverse.1 Dp|exact Dp
   obtain⟨u,hu,hVy⟩:=aQ.nth (pw) hy;have hVx:bE (λb=>Z b\/b=mb\/B<=b) wx (bx u) y:=bE.mono Rv (λ_ h=>.inr h) (λ_ h=>h) hVy;have hNx:gA (λb=>Z b\/b=mb\/B<=b) wx nb nm:=gA.kept hNS Rv (λ_ h=>.inr h) (λh=>by rcases h with h|h<;>omega) (λ_ h=>h);obtain⟨b1,o,rfl,_,aP⟩:=(Sl.kept (hD.sl) kx.kept (λj hj=>hwS j hj)).get hu;have c0:wx.cell? ⟨b1,o+i,none⟩=some (.pointer (some ⟨u,0,none⟩)):=by simpa[fm,bx] using aP 0 _ rfl
   have iQ:=zl (oR true l) i hy;have hco:bl (oR true l)=bl l:=by unfold oR;split<;>first|exact iL l|rfl
   push_cast -dsimp[c0];refine⟨⟨by omega,by omega⟩,?_⟩;refine aF (dD y hyl (iw bO hyl) (by have:=CX.2.2 y hyl;omega) nm (Ha y hyl) hr B mb nb true X Z wx ci _ CL (λb hb=>by have:=hX b hb;exact⟨this.1,by omega⟩) mO hNx hVx (by have:=CK.sum;omega)) ?_ ?_
   ·rintro _ wy ⟨⟨cy,hMy,Nw,hly,p8⟩,ky⟩;push_cast -dsimp;refine⟨⟨by omega,by omega⟩,⟨i+1,cy,rfl,by omega,hMy,CK.trans Nw,by rw[hly,JH,iQ.2];omega,EX hy (EW (Nw.same (Nat.le_refl _)) oI) p8,kx.trans ky⟩,by rw[h63];simp only[intOf];omega⟩
   rintro ce wy ⟨oy,ht,ky⟩;push_cast -dsimp;exact⟨by simp only[bG];omega,ht,(kS.trans kx).trans ky⟩
  have Iz:i=l.length:=by omega
  subst Iz;rw[List.take_of_length_le (by rw[uz];exact Nat.le_refl _)]at JH;have hco:bl (oR true l)=bl l:=by unfold oR;split<;>first|exact iL l|rfl
  exact⟨⟨ci,CL,CK,by simp only[bG];omega,KK.1 oI⟩,kS.trans kx⟩
theorem Mk.patch {B mb nb:Nat}{back:Bool}{X:Nat->Prop}{w w':World}{c:aD}{sv iv:Value}{us:List SV}{g k:Nat}{y:I3}(h:Mk B mb nb back X w c)(hM:MkB B mb nb back X w c sv iv us)(hg:iv.ownBlock=some g)(hO:Vc.Own B 164 3 bR w' iv (c.ins.set k y))(hk:Kept (·=g) w w') :
  Mk B mb nb back X w' ⟨c.sets,c.ins.set k y⟩/\gN mb w w':=by
 obtain⟨hB,xO,jT,uX,fx,gZ,lW,qE⟩:=hM;have hgm:mb≠g:=λe=>gZ (by rw[hg,e]);have o8:=hB.kept hk (λhh=>hgm hh);have aER:=xO.aJ hk (λi hi hh=>lW i hi (by rw[hg,hh]));have hz:=hk.size;refine⟨⟨⟨sv,iv,us,o8,aER,hO,uX,fx,gZ,lW,λi u s h1 h2=>(qE i u s h1 h2).kept hk (λi hi=>.inr (.inr (.inr (by rw[hg,hi]))))⟩,h.lt,by have:=h.le;omega,h.few,by rw[List.length_set];exact h.num,by rw[List.length_set];exact h.sum⟩,⟨hk.weaken (λi _ hi=>(eQ hB).2 (.inr (.inr (by rw[hg,hi])))),λi hi=>?_⟩⟩
 have:=(eQ o8).1 hi;exact .inl ((eQ hB).2 this)
theorem Mk.off {B mb nb:Nat}{back:Bool}{X:Nat->Prop}{w:World}{c:aD}(h:Mk B mb nb back X w c){α:Type}{base k:Nat}{e:TypeId}{enc:α->List Value}{v:Value}{l:List α}(hO:Vc.Own base e k enc w v l)(h1:e≠139)(h2:e≠164)(hb:mb<base):∀g,v.ownBlock=some g->¬Mw w mb g:=by
 intro g hg hm;obtain⟨sv,iv,us,hB,xO,jT,_⟩:=h.st;rcases(eQ hB).1 hm with hm|hm|hm
 ·have:=hO.block g hg;omega
 ·exact qp xO hO (λe=>h1 e.symm) g hm hg
 exact qp jT hO (λe=>h2 e.symm) g hm hg
theorem Mk.ie {B mb nb:Nat}{back:Bool}{X X':Nat->Prop}{w:World}{c:aD}(h:Mk B mb nb back X w c)(hX:∀b,X' b->X b):Mk B mb nb back X' w c:=by
 obtain⟨sv,iv,us,hB,xO,jT,uX,fx,gZ,lW,qE⟩:=h.st;exact⟨⟨sv,iv,us,hB,xO,jT,uX,fx,gZ,lW,λi u s h1 h2=>(qE i u s h1 h2).weaken (λb hb=>hb.imp (hX b) id)⟩,h.lt,h.le,h.few,h.num,h.sum⟩
theorem Mk.ZB {B mb nb:Nat}{back:Bool}{X:Nat->Prop}{w w':World}{c:aD}{ov ov':Value}(h:Mk B mb nb back (λb=>X b\/ov.ownBlock=some b) w c)(ho:∀g,ov.ownBlock=some g->¬Mw w mb g)(hk:Kept (λj=>ov.ownBlock=some j) w w')(hn:∀g,ov'.ownBlock=some g->ov.ownBlock=some g\/w.heap.size<=g) :
  Mk B mb nb back (λb=>X b\/ov'.ownBlock=some b) w' c:=by
 obtain⟨sv,iv,us,hB,xO,jT,uX,fx,gZ,lW,qE⟩:=h.st;have hz:=hk.size;refine⟨⟨sv,iv,us,hB.kept hk (λhh=>ho _ hh ((eQ hB).2 (.inl rfl))),xO.aJ hk (λg hg hh=>ho g hh ((eQ hB).2 (.inr (.inl hg)))),jT.aJ hk (λg hg hh=>ho g hh ((eQ hB).2 (.inr (.inr hg)))),uX,fx,gZ,lW,λi u s h1 h2=>?_⟩,h.lt,by have:=h.le;omega,h.few,h.num,h.sum⟩;refine(qE i u s h1 h2).Od (λ_=>by simp[bA]) hk (λi hi=>.inl (.inr hi)) (λb hb=>?_);rcases hb with (hb|hb)|hb|hb|hb
 ·exact .inl (.inl (.inl hb))
 ·rcases hn b hb with h3|h3
  ·exact .inl (.inl (.inr h3))
  exact .inr h3
 ·exact .inl (.inr (.inl hb))
 ·exact .inl (.inr (.inr (.inl hb)))
 exact .inl (.inr (.inr (.inr hb)))
theorem gN.ZB {mb:Nat}{w w1 w2:World}(h:gN mb w w1)(hk:Kept (λi=>w.heap.size<=i) w1 w2)(ao:mb<w.heap.size):gN mb w w2 :=
 ⟨h.kept.trans hk (λi hi hm=>by omega),λi hi=>h.own i (by
  rcases hi with hi|⟨o,v,e1,e2⟩
  ·exact .inl hi
  refine .inr ⟨o,v,?_,e2⟩;have hb:=hk.block mb (by have:=h.kept.size;omega) (by omega);have:w2.cell? ⟨mb,o,none⟩=w1.cell? ⟨mb,o,none⟩:=by simp only[World.cell?,hb]
  rw[<-this];exact e1)⟩
theorem Ext.set {a b:aD}{k:Nat}{y:I3}(h:Ext a b)(hk:a.ins.length<=k):Ext a ⟨b.sets,b.ins.set k y⟩:=⟨λj x hx=>by
 show (b.ins.set k y)[j]?=some x
 have hj:=(List.getElem?_eq_some_iff.1 hx).1;rw[List.getElem?_set,if_neg (by omega)];exact h.ins j x hx,h.sets,by have:=h.sum;simp only[List.length_set];omega⟩
theorem eK.set {a b:aD}{p q k:Nat}{y:I3}(h:eK a b p q)(hk:k<p\/q<=k):eK a ⟨b.sets,b.ins.set k y⟩ p q:=⟨λj h1 h2=>by
 show (b.ins.set k y)[j]?=_
 rw[List.getElem?_set,if_neg (by omega)];exact h.1 j h1 h2,h.2⟩
theorem eK.push {a b:aD}{p q:Nat}{x:I3}(h:eK a b p q)(hq:q<=b.ins.length):eK a (aD.push b x) p q:=⟨λj h1 h2=>by
 show (b.ins++[x])[j]?=_
 rw[List.getElem?_append_left (by omega)];exact h.1 j h1 h2,h.2⟩
theorem rX (c:aD)(x:I3):(aD.push c x).ins[c.ins.length]?=some x:=by
 show (c.ins++[x])[c.ins.length]?=_
 rw[List.getElem?_append_right (Nat.le_refl _),Nat.sub_self];rfl
theorem oS (c:aD)(x:I3):(aD.push c x).ins.length=c.ins.length+1:=by simp[aD.push]
theorem aEj (l:List aG)(cY:l≠[])(dD:∀y∈l,nr y):∀(bO:cU l) (od:∀y∈l,wd y<=100000) (Ha:l.length<=100000) (nm:ba) (jJ:∀y∈l,gy nm y=none) (hr:jM nm) (B mb nb:Nat) (back:Bool) (X Z:Nat->Prop) (w:World) (c:aD) (v:Value) (vs:List Nat) (h:Mk B mb nb back X w c) (hX:∀b,X b->(Z b\/b=mb\/B<=b)/\b<w.heap.size) (mO:nb<mb) (hN:gA (λb=>Z b\/b=mb\/B<=b) w nb nm) (hs:Sl (λb=>Z b\/b=mb\/B<=b) 1 (En fm) w v vs) (hV:aQ (λb=>Z b\/b=mb\/B<=b) w vs l) (q8:c.sets.length<=c.ins.length),
  yE Tryz.prog 138 [.pointer (some ⟨mb,0,none⟩),v] w
  (λr w'=>(∃c',Mk B mb nb back X w' c'/\Ext c c'/\c'.ins.length=c.ins.length+fI l/\lM (gj nm) c' back l c.ins.length c'.ins.length)/\gN mb w w')
  (λce w'=>2000<c.ins.length+fI l/\LP 4 ce/\gN mb w w'):=by
 intro bO od Ha nm jJ hr B mb nb back X Z w c v vs h hX mO hN hs hV q8;have hvl:=hV.len;have ao:=h.lt;have hle:=h.le;obtain⟨pa,pc,rfl,aFL⟩:=hs.shape;have aJY:0<l.length:=List.length_pos_iff.2 cY;refine bI Tryz.func138 rfl (by kernel_rfl) [] rfl ?_;push_cast -dsimp(maxSteps:=9^7) [Tryz.ntmps138];refine aK [4,5,6,7,12,13,14,15,16,17,18,19,20,21,22,23,24,25,26,27,28,29,30,31,32,33,34,35,36,37,38,39,40,41,42,43,44,45,46,47,48,49,50,51,52,53,54,55,56,57] (λz wx=>∃(i:Nat) (ci:aD) (js:List Nat) (ov:Value),z 12=.int .i64 i/\z 4=ov/\i<l.length/\Mk B mb nb back (λb=>X b\/ov.ownBlock=some b) wx ci/\Ext c ci/\ci.ins.length+fI (l.drop i)=c.ins.length+fI l/\mC (gj nm) ci back (l.take i) c.ins.length js ci.ins.length/\js.length=i/\Vc.Own w.heap.size 3 1 bH wx ov js/\gN mb w wx) (λz _=>l.length-(intOf (z 12)).toNat) ?_ ?_
 ·exact⟨0,c,[],_,rfl,rfl,aJY,h.ie (λb hb=>hb.elim id (λh=>by cases h)),Ext.refl c,by simp,by simp[mC],rfl,Vc.Own.nil (enc:=bH) _ _ (λ_=>rfl) _,gN.refl (by omega)⟩
 intro z wx hI;obtain⟨i,ci,js,ov,vu,h4,hi,CL,CK,JH,hJx,hjl,Qt,kx⟩:=hI;have Rv:=kx.out h;have zx:=kx.kept.size;have fU:=Qt.block;have aBi:=CL.off Qt (by decide) (by decide) (by omega);obtain⟨y,hy,Dp,hyd,hyt⟩:=ae (l:=l) (i:=i) hi;obtain⟨u,hu,hVy⟩:=aQ.nth hV hy;obtain⟨b1,o,rfl,_,aP⟩:=(hs.kept Rv (λ_ h=>.inr h)).get hu;have c0:wx.cell? ⟨b1,o+i,none⟩=some (.pointer (some ⟨u,0,none⟩)):=by simpa[fm,bx] using aP 0 _ rfl
 have iQ:fI (l.drop i)=if l.drop (i+1)=[] then bG y else bG y+2+fI (l.drop (i+1)):=by rw[hyd,fI]
 have hXx:∀b,(X b\/ov.ownBlock=some b)->(Z b\/b=mb\/B<=b)/\b<wx.heap.size:=λb hb=>by
  rcases hb with hb|hb
  ·have:=hX b hb;exact⟨this.1,by omega⟩
  have:=fU b hb;exact⟨.inr (.inr (by omega)),this.2⟩
 have oI:ci.sets.length<=ci.ins.length:=by have:=CK.sum;omega
 have Kw:∀(w1:World),gN mb wx w1->gA (λb=>Z b\/b=mb\/B<=b) w1 nb nm/\bE (λb=>Z b\/b=mb\/B<=b) w1 (bx u) y:=λw1 k1=>by
  have ko:=Rv.trans (k1.out CL) (λ_ _ h=>h);exact⟨gA.kept hN ko (λ_ h=>.inr h) (λh=>by rcases h with h|h<;>omega) (λ_ h=>h),bE.mono ko (λ_ h=>.inr h) (λ_ h=>h) hVy⟩
 push_cast -dsimp[vu,h4,c0];refine⟨λaT3=>⟨⟨by omega,by omega⟩,⟨by omega,by omega⟩,λAU=>?_,λhnl=>?_⟩,λeY=>by omega⟩
 ·have aOg:i+1=l.length:=by omega
  have hd0:l.drop (i+1)=[]:=List.drop_eq_nil_of_le (by omega);rw[if_pos hd0]at iQ;refine aF (dD y Dp (iw bO Dp) (od y Dp) nm (jJ y Dp) hr B mb nb back _ Z wx ci _ CL hXx mO (Kw wx (gN.refl (by omega))).1 (Kw wx (gN.refl (by omega))).2 oI) ?_ ?_
  ·rintro _ wy ⟨⟨cy,hMy,Nw,hly,p8⟩,ky⟩;have zy:=ky.kept.size;have hOy:=Qt.aJ ky.kept (λg hg hm=>aBi g hg hm);have hJy:mC (gj nm) cy back (l.take i) c.ins.length js ci.ins.length:=wY _ _ _ _ (Nw.same (Nat.le_refl _)) hJx;have aFu:=(vK _ _ _ _ hJy).2;obtain⟨oa,oc,rfl⟩:=Qt.slice;have e:∃e,e=cy.ins.length:=⟨_,rfl⟩;obtain⟨e,he⟩:=e;have hXy:∀b,(X b\/(Value.slice oa js.length oc).ownBlock=some b)->(Z b\/b=mb\/B<=b)/\b<wy.heap.size:=λb hb=>by
    have:=hXx b hb;exact⟨this.1,by omega⟩
   push_cast -dsimp;refine aK [9,60,61,62,63,64,65,66,67,68,69,70,71,72,73,74] (λz wz=>∃(t:Nat) (ct:aD),z 60=.int .i64 t/\t<=js.length/\Mk B mb nb back (λb=>X b\/(Value.slice oa js.length oc).ownBlock=some b) wz ct/\kA cy ct (js.take t) (λx=>⟨x.op,(e:Int),x.b⟩)/\Vc.Own w.heap.size 3 1 bH wz (.slice oa js.length oc) js/\gN mb w wz) (λz _=>js.length-(intOf (z 60)).toNat) ?_ ?_
   ·exact⟨0,cy,rfl,Nat.zero_le _,hMy,kA.nil cy _,hOy,kx.trans ky⟩
   intro z wz hI;obtain⟨t,ct,h60,ht,Ie,vx,hOz,kz⟩:=hI;have zz:=kz.kept.size;have Wx:=Ie.off hOz (by decide) (by decide) (by omega);have hlz:=vx.len;push_cast -dsimp[h60];refine⟨λJG=>?_,λeY=>?_⟩
   ·obtain⟨k,hk,vW,_,hkt⟩:=ae (l:=js) (i:=t) (by omega);obtain⟨bj,oj,hej,_,qU⟩:=hOz.sl.get hk;cases hej;have cj:wz.cell? ⟨bj,oj+t,none⟩=some (.int .i64 (k:Int)):=by simpa[bH] using qU 0 _ rfl
    have Wq:k<ct.ins.length:=by have:=aFu k vW;have:=hly;omega
    obtain⟨xk,Tq,_⟩:=ae (l:=ct.ins) (i:=k) Wq;push_cast -dsimp[cj];refine⟨⟨by omega,by omega⟩,?_⟩;have fp:=(Ie).st;obtain⟨TS,ivP,usP,oF⟩:=fp;have gv:=oF.2.2.1;obtain⟨iaP,wM,rfl⟩:=gv.slice;have RJ:=gv.sl.get Tq;obtain⟨gP,oP,eP,_,_⟩:=RJ;subst eP;have wK:oP=0:=Vc.Own.Zg gv;subst wK;have RP:=(List.getElem?_eq_some_iff.1 Tq).1;have Dl:=(Ie).num;have Qf:(wz).drew.cell? ⟨mb,1,none⟩=some (.slice (some ⟨gP,0,none⟩) (ct).ins.length wM):=oF.1.drew.cell rfl;refine dV (λw'=>aM w' mb 200 [TS,.slice (some ⟨gP,0,none⟩) (ct).ins.length wM,.map (some nb),.bool back]) mixed (by kernel_rfl) (by simp) oF.1.drew ?_;push_cast -dsimp[Qf];refine⟨λbB h=>by rw[h.cell (o:=1) rfl];exact rfl,?_⟩;have gw:=cQ (wz);refine aA (ox ((Ie).below gw)) ?_;rintro _ _ ⟨rfl,rfl⟩;refine⟨oF.1.drew,?_⟩;push_cast -dsimp;refine⟨⟨by omega,by omega⟩,?_⟩;have vv:Vc.Own B 164 3 bR (wz).drew (.slice (some ⟨gP,0,none⟩) (ct).ins.length wM) (ct).ins:=gv.aJ ((Kept.refl (λ_=>False) (wz)).drew) (λ_ _ h=>h);refine fw (i:=k) (f:=1) (x:=xk) (y:=(⟨xk.op,(ct.ins.length:Int),xk.b⟩:I3)) vv rfl Tq (by decide) rfl rfl ?_;intro wP Qq RN zP;have RT:=Mk.patch ((Ie).below gw) (oF.below gw) rfl Qq RN;obtain⟨pt,jh⟩:=RT;have fp:gN mb (wz) wP:=(gN.below gw (by have:=(Ie).lt;have:=(Ie).le;omega)).trans jh;refine⟨trivial,?_⟩;push_cast -dsimp;have hTn:=kA.step (g:=λx=>⟨x.op,(e:Int),x.b⟩) (λx=>rfl) vx Tq;rw[<-hkt]at hTn;have hec:(e:Int)=(ct.ins.length:Int):=by rw[he,hlz]
    rw[hec]at hTn vx;refine⟨⟨by omega,by omega⟩,⟨t+1,_,rfl,by omega,pt,by rw[hec];exact hTn,hOz.aJ fp.kept (λg hg hm=>Wx g hg hm),kz.trans fp⟩,by rw[h60];simp only[intOf];omega⟩
   have LA:t=js.length:=by omega
   rw[LA,List.take_length]at vx;have Ws:l.take i++[y]=l:=by rw[<-hyt,List.take_of_length_le (by omega)]
   have hA:lM (gj nm) ct back l c.ins.length e:=by
    have:=Yi (y:=y) (l.take i) c.ins.length ci.ins.length e js vx hJy (by rw[he];exact p8) (λk hk=>by have:=aFu k hk;omega);rw[Ws]at this;exact this
   have aA0:∀k∈js,c.ins.length<=k:=λk hk=>by have:=(aFu k hk).1;omega
   refine⟨⟨ct,Ie.ie (λb hb=>.inl hb),⟨λk x hx=>?_,λk s hs=>?_,?_⟩,by rw[hlz];omega,by rw[hlz,<-he];exact hA⟩,kz⟩
   ·have hk:=(List.getElem?_eq_some_iff.1 hx).1;rw[vx.ins k,if_neg (λhm=>by have:=aA0 k hm;omega)];exact(CK.trans Nw).ins k x hx
   ·rw[vx.sets];exact(CK.trans Nw).sets k s hs
   have:=(CK.trans Nw).sum;rw[vx.sets,hlz];exact this
  rintro ce wy ⟨oy,ht,ky⟩;push_cast -dsimp;exact⟨by omega,ht,kx.trans ky⟩
 ·have hd1:l.drop (i+1)≠[]:=by intro hd;have:=congrArg List.length hd;simp at this;omega
  rw[if_neg hd1]at iQ;refine aF (tn CL (by omega) ⟨2,0,0⟩) ?_ ?_
  ·rintro _ w1 ⟨vX,rfl,Kr,k1⟩;have z1:=k1.kept.size;have LD:=rX ci ⟨2,0,0⟩;have hn1:=oS ci ⟨2,0,0⟩;push_cast -dsimp;have fp:=(Kr).st;obtain⟨TS,ivP,usP,oF⟩:=fp;have gv:=oF.2.2.1;obtain⟨iaP,wM,rfl⟩:=gv.slice;have RJ:=gv.sl.get LD;obtain⟨gP,oP,eP,_,_⟩:=RJ;subst eP;have wK:oP=0:=Vc.Own.Zg gv;subst wK;have RP:=(List.getElem?_eq_some_iff.1 LD).1;have Dl:=(Kr).num;have Qf:(w1).drew.cell? ⟨mb,1,none⟩=some (.slice (some ⟨gP,0,none⟩) ((aD.push ci ⟨2,0,0⟩)).ins.length wM):=oF.1.drew.cell rfl;refine dV (λw'=>aM w' mb 200 [TS,.slice (some ⟨gP,0,none⟩) ((aD.push ci ⟨2,0,0⟩)).ins.length wM,.map (some nb),.bool back]) mixed (by kernel_rfl) (by simp) oF.1.drew ?_;push_cast -dsimp[Qf];refine⟨λbB h=>by rw[h.cell (o:=1) rfl];exact rfl,?_⟩;have gw:=cQ (w1);refine aA (ox ((Kr).below gw)) ?_;rintro _ _ ⟨rfl,rfl⟩;refine⟨oF.1.drew,?_⟩;push_cast -dsimp;refine⟨⟨by omega,by omega⟩,?_⟩;have vv:Vc.Own B 164 3 bR (w1).drew (.slice (some ⟨gP,0,none⟩) ((aD.push ci ⟨2,0,0⟩)).ins.length wM) ((aD.push ci ⟨2,0,0⟩)).ins:=gv.aJ ((Kept.refl (λ_=>False) (w1)).drew) (λ_ _ h=>h);refine fw (i:=ci.ins.length) (f:=1) (x:=(⟨2,0,0⟩:I3)) (y:=(⟨2,((aD.push ci ⟨2,0,0⟩).ins.length:Int),0⟩:I3)) vv rfl LD (by decide) rfl rfl ?_;intro wP Qq RN zP;have RT:=Mk.patch ((Kr).below gw) (oF.below gw) rfl Qq RN;obtain⟨pt,jh⟩:=RT;have fp:gN mb (w1) wP:=(gN.below gw (by have:=(Kr).lt;have:=(Kr).le;omega)).trans jh;refine⟨trivial,?_⟩;push_cast -dsimp
   have GS:∃c1:aD,c1=⟨(aD.push ci ⟨2,0,0⟩).sets,(aD.push ci ⟨2,0,0⟩).ins.set ci.ins.length ⟨2,((aD.push ci ⟨2,0,0⟩).ins.length:Int),0⟩⟩:=⟨_,rfl⟩;obtain⟨c1,GS⟩:=GS;rw[<-GS]at pt;have aOn:c1.ins.length=ci.ins.length+1:=by rw[GS];simp[aD.push]
   have OK:c1.ins[ci.ins.length]?=some ⟨2,((ci.ins.length+1:Nat):Int),0⟩:=by
    rw[GS]
    show ((aD.push ci ⟨2,0,0⟩).ins.set ci.ins.length _)[ci.ins.length]?=_
    rw[List.getElem?_set,if_pos rfl,if_pos (by omega),hn1]
   have hE1:Ext ci c1:=by rw[GS];exact(Ext.push ci _).set (Nat.le_refl _)
   have XB:c1.sets=ci.sets:=by rw[GS];rfl
   have kP:gN mb wx wP:=k1.trans fp;have zP':=kP.kept.size;have aJO:=Kw wP kP;refine aF (dD y Dp (iw bO Dp) (od y Dp) nm (jJ y Dp) hr B mb nb back _ Z wP c1 _ pt (λb hb=>by have:=hXx b hb;exact⟨this.1,by omega⟩) mO aJO.1 aJO.2 (by rw[XB];omega)) ?_ ?_
   ·rintro _ wq ⟨⟨c2,GH,hE2,oy,gZ⟩,k2⟩;have kq:=kP.trans k2;have zq:=kq.kept.size;push_cast -dsimp;have aRj:c2.sets.length<=c2.ins.length:=by have:=hE2.sum;rw[XB]at this;omega
    refine aF (tn GH (by omega) ⟨3,0,0⟩) ?_ ?_
    ·rintro _ w3 ⟨OM,rfl,GI,k3⟩;have kx3:=kq.trans k3;have z3:=kx3.kept.size;have Ks:=Qt.aJ kx3.kept (λg hg hm=>aBi g hg hm);have aQ2:=GI.off Ks (by decide) (by decide) (by omega);have hn3:=oS c2 ⟨3,0,0⟩;push_cast -dsimp;refine cH bo rfl rfl (by omega) ?_;intro w4 ah;have z4:=ah.size;have hM4:=GI.below ah.below;have yg:=Ks.new ah;have aJ7:=hM4.off yg (by decide) (by decide) (by omega);push_cast -dsimp;refine aW (base:=w.heap.size) [c2.ins.length] (enc:=bH) bo yg (by rfl) (λj u hu=>by rw[Nat.zero_add];exact ah.cell hu) (by simp[bH,Value.oneCell']) (by simp only[List.length_cons,List.length_nil];omega) (by omega) ?_;intro v5 w5 sH yR H8;have aFy:Kept (λj=>ov.ownBlock=some j) w4 w5:=Kept.grown yR (λ_ h=>h);have z5:=aFy.size;have Cr:=hM4.ZB aJ7 aFy H8;have kx5:gN mb w w5:=(kx.trans (kx3.trans (gN.below ah.below (by have:=GI.lt;have:=GI.le;omega)))).ZB (aFy.weaken (λj _ h=>(fU j h).1)) (by omega);have Ww:=Cr.off sH (by decide) (by decide) (by omega);have CT:(aD.push c2 ⟨3,0,0⟩).ins[ci.ins.length]?=some ⟨2,((ci.ins.length+1:Nat):Int),0⟩:=(Ext.push c2 _).ins _ _ (hE2.ins _ _ OK);push_cast -dsimp;have fp:=(Cr).st;obtain⟨TS,ivP,usP,oF⟩:=fp;have gv:=oF.2.2.1;obtain⟨iaP,wM,rfl⟩:=gv.slice;have RJ:=gv.sl.get CT;obtain⟨gP,oP,eP,_,_⟩:=RJ;subst eP;have wK:oP=0:=Vc.Own.Zg gv;subst wK;have RP:=(List.getElem?_eq_some_iff.1 CT).1;have Dl:=(Cr).num;have Qf:(w5).drew.cell? ⟨mb,1,none⟩=some (.slice (some ⟨gP,0,none⟩) ((aD.push c2 ⟨3,0,0⟩)).ins.length wM):=oF.1.drew.cell rfl
     refine dV (λw'=>aM w' mb 200 [TS,.slice (some ⟨gP,0,none⟩) ((aD.push c2 ⟨3,0,0⟩)).ins.length wM,.map (some nb),.bool back]) mixed (by kernel_rfl) (by simp) oF.1.drew ?_;push_cast -dsimp[Qf];refine⟨λbB h=>by rw[h.cell (o:=1) rfl];exact rfl,?_⟩;have gw:=cQ (w5);refine aA (ox ((Cr).below gw)) ?_;rintro _ _ ⟨rfl,rfl⟩;refine⟨oF.1.drew,?_⟩;push_cast -dsimp;refine⟨⟨by omega,by omega⟩,?_⟩;have vv:Vc.Own B 164 3 bR (w5).drew (.slice (some ⟨gP,0,none⟩) ((aD.push c2 ⟨3,0,0⟩)).ins.length wM) ((aD.push c2 ⟨3,0,0⟩)).ins:=gv.aJ ((Kept.refl (λ_=>False) (w5)).drew) (λ_ _ h=>h);refine fw (i:=ci.ins.length) (f:=2) (x:=(⟨2,((ci.ins.length+1:Nat):Int),0⟩:I3)) (y:=(⟨2,((ci.ins.length+1:Nat):Int),((aD.push c2 ⟨3,0,0⟩).ins.length:Int)⟩:I3)) vv rfl CT (by decide) rfl rfl ?_;intro wP Qq RN zP;have RT:=Mk.patch ((Cr).below gw) (oF.below gw) rfl Qq RN;obtain⟨pt,jh⟩:=RT;have fp:gN mb (w5) wP:=(gN.below gw (by have:=(Cr).lt;have:=(Cr).le;omega)).trans jh;refine⟨trivial,?_⟩;push_cast -dsimp;have RD:∃c4:aD,c4=⟨(aD.push c2 ⟨3,0,0⟩).sets,(aD.push c2 ⟨3,0,0⟩).ins.set ci.ins.length ⟨2,((ci.ins.length+1:Nat):Int),((aD.push c2 ⟨3,0,0⟩).ins.length:Int)⟩⟩:=⟨_,rfl⟩;obtain⟨c4,RD⟩:=RD;rw[<-RD]at pt;have hn4:c4.ins.length=c2.ins.length+1:=by rw[RD];simp[aD.push]
     have Nv:Ext ci c4:=by rw[RD];exact((hE1.trans hE2).trans (Ext.push c2 _)).set (Nat.le_refl _)
     have Tn:c4.ins[ci.ins.length]?=some ⟨2,((ci.ins.length+1:Nat):Int),((c2.ins.length+1:Nat):Int)⟩:=by
      rw[RD]
      show ((aD.push c2 ⟨3,0,0⟩).ins.set ci.ins.length _)[ci.ins.length]?=_
      rw[List.getElem?_set,if_pos rfl,if_pos (by omega),hn3]
     have hj4:c4.ins[c2.ins.length]?=some ⟨3,0,0⟩:=by
      rw[RD]
      show ((aD.push c2 ⟨3,0,0⟩).ins.set ci.ins.length _)[c2.ins.length]?=_
      rw[List.getElem?_set,if_neg (by omega)];exact rX c2 _
     have hs4:eK c2 c4 (ci.ins.length+1) c2.ins.length:=by
      rw[RD];exact eK.set (eK.push ((Ext.refl c2).same (Nat.le_refl _)) (Nat.le_refl _)) (.inl (by omega))
     have hJ4:mC (gj nm) c4 back (l.take (i+1)) c.ins.length (js++[c2.ins.length]) c4.ins.length:=by
      rw[hyt];refine KJ _ _ _ ci.ins.length _ _ _ (wY _ _ _ _ (Nv.same (Nat.le_refl _)) hJx) ?_;simp only[mC];rw[aOn]at gZ;exact⟨c2.ins.length,[],rfl,Tn,dU _ _ _ hs4 gZ,hj4,rfl,hn4.symm⟩
     have GJ:=sH.aJ fp.kept (λg hg hm=>Ww g hg hm);exact⟨⟨by omega,by omega⟩,⟨i+1,c4,_,_,rfl,rfl,by omega,pt,CK.trans Nv,by omega,hJ4,by simp[hjl],GJ,kx5.trans fp⟩,by rw[vu];simp only[intOf];omega⟩
    rintro ce w3 ⟨OM,ht,k3⟩;push_cast -dsimp;exact⟨by omega,ht,kx.trans (kq.trans k3)⟩
   rintro ce wq ⟨oy,ht,k2⟩;push_cast -dsimp;exact⟨by omega,ht,kx.trans (kP.trans k2)⟩
  rintro ce w1 ⟨oy,ht,k1⟩;push_cast -dsimp;exact⟨by omega,ht,kx.trans k1⟩
end Go.Proofs.YtemjejfpadnljaaGreatDoor
namespace Go.Vc
section
variable {P:Program}
def VU (id:Nat)(Q:EP)(M:List Nat)(t:Fr)(J:(Nat->Value)->World->Prop)(_:Ph (Q,t,J)):EP
 | .exit i,t',w'=>i=id/\t'=ov t M (at_ t')/\J (at_ t') w'
 | .panic c,t',w'=>Q (.panic c) t' w'
 | _,_,_=>False
theorem Km {c:Code}{id:Nat}{t:Fr}{w:World}{Q:EP}{p q}(M:List Nat)(J:(Nat->Value)->World->Prop)(h1:cZ P c (VU id Q M t J .mk) t w .mk)
  (h2:∀z w',J z w'->Q .normal (ov t M z) w'):cZ P c (je id Q p) t w q:=by
 refine Kn ?_ h1;intro e t' w' h;cases e<;>simp only[VU]at h
 case exit i =>
  obtain⟨rfl,ht,hJ⟩:=h;rw[xI,ht];exact h2 _ _ hJ
 case panic c=>exact h
theorem QK {id:Nat}{Q:EP}{M:List Nat}{t t':Fr}{w':World}{J:(Nat->Value)->World->Prop}(p):VU id Q M t J p (.exit id) t' w'=(t'=ov t M (at_ t')/\J (at_ t') w'):=by simp[VU]
theorem Lh {id:Nat}{Q:EP}{M:List Nat}{t t':Fr}{w':World}{J:(Nat->Value)->World->Prop}(c)(p):VU id Q M t J p (.panic c) t' w'=Q (.panic c) t' w':=(rfl)
attribute [push_cast] QK Lh
end
end Go.Vc
namespace Cae
theorem Rp {S:Nat->Nat->Prop}{b:Nat}(hb:S b b):∀{n m a:Nat},n<=m->iterM S n a b->iterM S m a b
 | n,m,a,qY,h=>by
  obtain⟨d,rfl⟩:=Nat.le.dest qY;clear qY;induction d with
  | zero=>exact h
  | succ d ih=>exact pF.2 ⟨b,ih,hb⟩
end Cae
namespace Cae
section
variable {has:ax->Int->Prop} {c:aD} {back:Bool}
structure fz (has:ax->Int->Prop)(back:Bool)(x:aG)(c:aD):Prop where
 seg:iD has c back x 0 (bG x)
 len:c.ins.length=bG x+1
 yes:c.ins[bG x]?=some ⟨5,0,0⟩
 aKM:c.ins.length<=2000
 sets:c.sets.length<=c.ins.length
 right:∀s∈c.sets,aO (-2) s=true
theorem fz.ok {x:aG}(h:fz has back x c):aV c=true:=by
 have hl:=h.len;have hm:=h.aKM;have hs:=h.sets;have hr:=iB x 0 (bG x) (bG x+1) (by omega) h.seg;unfold aV;simp only[Bool.and_eq_true,decide_eq_true_eq,List.all_eq_true];refine⟨⟨⟨⟨by omega,by omega,by omega⟩,?_⟩,λy hy=>?_⟩,h.right⟩
 ·rw[show c.ins.length-1=bG x by omega,h.yes]
  rfl
 obtain⟨k,hk⟩:=List.getElem?_of_mem hy;have ao:=(List.getElem?_eq_some_iff.1 hk).1;rw[hl];by_cases hc:k<bG x
 ·obtain⟨z,h1,h2⟩:=hr k (Nat.zero_le _) hc;rw[h1]at hk;cases hk;exact h2
 have e:k=bG x:=by omega
 rw[e,h.yes]at hk;cases hk;exact Sw
theorem fz.X8 {x:aG}{bV:List Int}{i:Nat}(h:fz has back x c)(vY:∀p∈bV,0<=p/\p<=1114111)(bO:bK x)(hi:i<=bV.length):(eo c (EK bV back i)).1=true↔lg has bV x i back :=
 (mf (CR.of h.ok) _).trans (NI vY bO h.seg h.yes hi)
end
def zH (has:ax->Int->Prop)(f:de)(p:bN):Prop:=p.dG=f.dG/\dX (λ(r:bW) (q:dJ)=>r.brk=q.brk/\fz has true q.before r.before/\fz has false q.after r.after) p.rules f.rules
section
variable {has:ax->Int->Prop} {bV:List Int}
theorem Xe {r:bW}{q:dJ}(vY:∀p∈bV,0<=p/\p<=1114111)(bO:bK q.before/\bK q.after)(h:r.brk=q.brk/\fz has true q.before r.before/\fz has false q.after r.after){i:Nat}(hi:i<=bV.length):fO bV i r=true↔SH has bV q i:=by
 unfold fO SH;rw[Bool.and_eq_true];exact and_congr (h.2.1.X8 vY bO.1 hi) (h.2.2.X8 vY bO.2 hi)
theorem NH {dG:Bool}{i:Nat}(vY:∀p∈bV,0<=p/\p<=1114111)(hi:i<=bV.length):∀{l:List bW} {m:List dJ},dX (λ(r:bW) (q:dJ)=>r.brk=q.brk/\fz has true q.before r.before/\fz has false q.after r.after) l m->(∀q∈m,bK q.before/\bK q.after)->l.foldr (λr acc=>if fO bV i r then r.brk else acc) dG=BU has bV dG i m:=by
 intro l m h;induction h with
 | nil=>intro _;rfl
 | @cons r q l m h1 h2 ih =>
  intro bO;rw[List.foldr_cons,BU,ih λq hq=>bO q (List.mem_cons_of_mem _ hq)];have hm:=Xe vY (bO q (List.mem_cons_self ..)) h1 hi;by_cases hq:SH has bV q i
  ·rw[if_pos hq,if_pos (hm.2 hq),h1.1]
  rw[if_neg hq,if_neg (λhh=>hq (hm.1 hh))]
theorem Hn {f:de}{p:bN}(vY:∀q∈bV,0<=q/\q<=1114111)(bO:∀q∈f.rules,bK q.before/\bK q.after)(h:zH has f p):fH p bV=tw has bV f.rules f.dG:=by
 unfold fH tw bZ;by_cases cY:bV=[]
 ·rw[if_pos cY,if_pos cY]
 rw[if_neg cY,if_neg cY];refine List.filter_congr λi hi=>?_;rw[List.mem_range]at hi;unfold nJ isM ee;rw[List.drop_zero,h.1,NH vY (by omega) h.2 bO]
theorem zH.right {f:de}{p:bN}(h:zH has f p)(hl:f.rules.length<=20):az p=true:=by
 have hlen:=dX.len h.2;unfold az;rw[Bool.and_eq_true,decide_eq_true_iff,List.all_eq_true];refine⟨by omega,λr hr=>?_⟩;have key:∀{l:List bW} {m:List dJ},dX (λ(r:bW) (q:dJ)=>r.brk=q.brk/\fz has true q.before r.before/\fz has false q.after r.after) l m->∀r∈l,aV r.before=true/\aV r.after=true:=by
  intro l m h;induction h with
  | nil=>intro r hr;cases hr
  | cons h1 _ ih =>
   intro r hr;rcases List.mem_cons.1 hr with rfl|hr
   ·exact⟨h1.2.1.ok,h1.2.2.ok⟩
   exact ih r hr
 have:=key h.2 r hr;rw[this.1,this.2];rfl
end
end Cae
namespace Go.Proofs.YtemjejfpadnljaaGreatDoor
open Go.Vc Go.Proofs Go.RowKit Cae
attribute [local irreducible] cZ ab ai aX runK ar Sl Vc.Own vc aS bu aZ
theorem Uy (x:aG)(lo hi:Int)(hx:nr x)(bO:bK (.many x lo hi))(od:wd x<=100000)(nm:ba)(jJ:gy nm x=none)(hr:jM nm)(B mb nb:Nat)(back:Bool)(X Z:Nat->Prop)(w:World)(c:aD)(v:Value)(h:Mk B mb nb back X w c)(hX:∀b,X b->(Z b\/b=mb\/B<=b)/\b<w.heap.size)(mO:nb<mb)(hN:gA (λb=>Z b\/b=mb\/B<=b) w nb nm)(hV:bE (λb=>Z b\/b=mb\/B<=b) w v (.many x lo hi))(q8:c.sets.length<=c.ins.length) :
  yE Tryz.prog 139 [.pointer (some ⟨mb,0,none⟩),v] w
  (λr w'=>(∃c',Mk B mb nb back X w' c'/\Ext c c'/\c'.ins.length=c.ins.length+bG (.many x lo hi)/\iD (gj nm) c' back (.many x lo hi) c.ins.length c'.ins.length)/\gN mb w w')
  (λce w'=>2000<c.ins.length+bG (.many x lo hi)/\LP 4 ce/\gN mb w w'):=by
 have ao:=h.lt;have hle:=h.le;simp only[bK]at bO;obtain⟨aFH,aUg,aJX,aJQ,hlh⟩:=bO;simp only[bE]at hV;obtain⟨xb,psv,u,rfl,C0,hB,hs,hVx⟩:=hV;obtain⟨pa,pc,rfl,aFL⟩:=hs.shape;obtain⟨b1,o,rfl,_,aP⟩:=hs.get (i:=0) (x:=u) rfl;have AV:∃n:Nat,lo=n:=⟨lo.toNat,by omega⟩;obtain⟨n,rfl⟩:=AV;have c0:w.cell? ⟨b1,o,none⟩=some (.pointer (some ⟨u,0,none⟩)):=by simpa[fm,bx] using aP 0 _ rfl
 have aJe:b1≠mb/\¬B<=b1:=by
  have h1:=hs.get (i:=0) (x:=u) rfl;obtain⟨b',o',e,cY,_⟩:=h1;cases e;exact⟨λe=>cY (.inr (.inl e)),λe=>cY (.inr (.inr e))⟩
 have JD:∀w1,Kept (λb=>b=mb\/B<=b) w w1->aM w1 xb 158 [.int .i64 6,.pointer none,.slice (some ⟨b1,o,none⟩) 1 pc,.int .i64 n,.int .i64 hi]/\w1.cell? ⟨b1,o,none⟩=some (.pointer (some ⟨u,0,none⟩))/\gA (λb=>Z b\/b=mb\/B<=b) w1 nb nm/\bE (λb=>Z b\/b=mb\/B<=b) w1 (bx u) x:=λw1 k1 =>
  ⟨hB.kept k1 (λhh=>C0 (.inr hh)),k1.cell c0 (λhh=>hh.elim aJe.1 aJe.2),gA.kept hN k1 (λ_ h=>.inr h) (λh=>by rcases h with h|h<;>omega) (λ_ h=>h),bE.mono k1 (λ_ h=>.inr h) (λ_ h=>h) hVx⟩
 have hlen:=λ(ci:aD) (a b:Nat)=>fP (has:=gj nm) (c:=ci) (back:=back) x a b;have d3:w.cell? ⟨xb,3,none⟩=some (.int .i64 (n:Int)):=hB.cell rfl;refine bI Tryz.func139 rfl (by kernel_rfl) [] rfl ?_;push_cast -dsimp(maxSteps:=9^7) [Tryz.ntmps139];push_cast -dsimp[d3];refine Km [4,15,16,17,18,19,20,21,22,23,24,25,26,27,28,29,30,31] (λz wx=>∃(ci:aD),Mk B mb nb back X wx ci/\Ext c ci/\ci.ins.length=c.ins.length+n*bG x/\iterM (iD (gj nm) ci back x) n c.ins.length ci.ins.length/\gN mb w wx) ?_ ?_
 ·refine aK [4,15,16,17,18,19,20,21,22,23,24,25,26,27,28,29,30,31] (λz wx=>∃(t:Nat) (ci:aD),z 15=.int .i64 t/\t<=n/\Mk B mb nb back X wx ci/\Ext c ci/\ci.ins.length=c.ins.length+t*bG x/\iterM (iD (gj nm) ci back x) t c.ins.length ci.ins.length/\gN mb w wx) (λz _=>n-(intOf (z 15)).toNat) ?_ ?_
  ·exact⟨0,c,rfl,Nat.zero_le _,h,Ext.refl c,by simp,rfl,gN.refl (by omega)⟩
  intro z wx hI;obtain⟨t,ci,h15,ht,CL,CK,JH,hix,kx⟩:=hI;have Rv:=kx.out h;have zx:=kx.kept.size;obtain⟨oE,cx,hNx,hPx⟩:=JD wx Rv;push_cast -dsimp[h15];have oI:ci.sets.length<=ci.ins.length:=by have:=CK.sum;omega
  have hXx:∀b,X b->(Z b\/b=mb\/B<=b)/\b<wx.heap.size:=λb hb=>by have:=hX b hb;exact⟨this.1,by omega⟩
  refine⟨λJG=>?_,λeY=>?_⟩
  ·have hmul:(t+1)*bG x<=n*bG x:=Nat.mul_le_mul_right _ (by omega);have RW:(t+1)*bG x=t*bG x+bG x:=Nat.succ_mul _ _;refine aA (ox CL) ?_;rintro _ w0 ⟨rfl,uZ⟩;have uZ:=uZ.symm;subst uZ;have e2:wx.cell? ⟨xb,2,none⟩=some (.slice (some ⟨b1,o,none⟩) 1 pc):=oE.cell rfl;push_cast -dsimp[e2,cx];refine aF (hx aFH od nm jJ hr B mb nb back X Z _ ci _ CL hXx mO hNx hPx oI) ?_ ?_
   ·rintro _ wy ⟨⟨cy,hMy,Nw,hly,p8⟩,ky⟩;have hiy:iterM (iD (gj nm) cy back x) (t+1) c.ins.length cy.ins.length:=pF.2 ⟨ci.ins.length,lr (A:=c.ins.length) (B:=ci.ins.length) (λa b=>hlen ci a b) (λp q hp hq=>dU x p q ((Nw.same (Nat.le_refl _)).sub hp hq)) _ _ _ (Nat.le_refl _) (Nat.le_refl _) hix,p8⟩;push_cast -dsimp;refine aA (ox hMy) ?_;rintro _ w0 ⟨rfl,uZ⟩;have uZ:=uZ.symm;subst uZ;push_cast -dsimp;refine⟨λheq=>?_,λcY=>?_⟩
    ·have h0:bG x=0:=by omega
     have cJ:iD (gj nm) cy back x cy.ins.length cy.ins.length:=by
      have h1:=p8;have h2:ci.ins.length=cy.ins.length:=by omega
      rw[h2]at h1;exact h1
     exact⟨cy,hMy,CK.trans Nw,by rw[hly,JH,h0];simp,Rp cJ (by omega) hiy,kx.trans ky⟩
    exact⟨⟨by omega,by omega⟩,⟨t+1,cy,rfl,by omega,hMy,CK.trans Nw,by rw[hly,JH,RW];omega,hiy,kx.trans ky⟩,by rw[h15];simp only[intOf];omega⟩
   rintro ce wy ⟨oy,ht2,ky⟩;push_cast -dsimp;exact⟨by simp only[bG,Int.toNat_natCast];omega,ht2,kx.trans ky⟩
  have htn:t=n:=by omega
  subst htn;exact⟨ci,CL,CK,JH,hix,kx⟩
 intro z w1 hJ;obtain⟨c1,Kr,hE1,vX,OH,k1⟩:=hJ;have k1o:=k1.out h;have z1:=k1.kept.size;obtain⟨n0,cx1,hN1,oG⟩:=JD w1 k1o;have d4:w1.cell? ⟨xb,4,none⟩=some (.int .i64 hi):=n0.cell rfl;have fx:c1.sets.length<=c1.ins.length:=by have:=hE1.sum;omega
 have hX1:∀b,X b->(Z b\/b=mb\/B<=b)/\b<w1.heap.size:=λb hb=>by have:=hX b hb;exact⟨this.1,by omega⟩
 have iQ:bG (.many x (n:Int) hi)=n*bG x+if hi<0 then bG x+2 else (hi-n).toNat*(bG x+1):=by simp only[bG,Int.toNat_natCast]
 push_cast -dsimp[d4];refine⟨λJI=>?_,λyX=>?_⟩
 ·rw[if_pos JI]at iQ;refine aF (tn Kr (by omega) ⟨2,0,0⟩) ?_ ?_
  ·rintro _ w2 ⟨oy,rfl,GH,k2⟩;have z2:=k2.kept.size;have yi:=rX c1 ⟨2,0,0⟩;have Z6:=oS c1 ⟨2,0,0⟩;push_cast -dsimp;have fp:=(GH).st;obtain⟨TS,ivP,usP,oF⟩:=fp;have gv:=oF.2.2.1;obtain⟨iaP,wM,rfl⟩:=gv.slice;have RJ:=gv.sl.get yi;obtain⟨gP,oP,eP,_,_⟩:=RJ;subst eP;have wK:oP=0:=Vc.Own.Zg gv;subst wK;have RP:=(List.getElem?_eq_some_iff.1 yi).1;have Dl:=(GH).num;have Qf:(w2).drew.cell? ⟨mb,1,none⟩=some (.slice (some ⟨gP,0,none⟩) ((aD.push c1 ⟨2,0,0⟩)).ins.length wM):=oF.1.drew.cell rfl;refine dV (λw'=>aM w' mb 200 [TS,.slice (some ⟨gP,0,none⟩) ((aD.push c1 ⟨2,0,0⟩)).ins.length wM,.map (some nb),.bool back]) mixed (by kernel_rfl) (by simp) oF.1.drew ?_;push_cast -dsimp[Qf];refine⟨λbB h=>by rw[h.cell (o:=1) rfl];exact rfl,?_⟩;have gw:=cQ (w2);refine aA (ox ((GH).below gw)) ?_;rintro _ _ ⟨rfl,rfl⟩;refine⟨oF.1.drew,?_⟩;push_cast -dsimp;refine⟨⟨by omega,by omega⟩,?_⟩;have vv:Vc.Own B 164 3 bR (w2).drew (.slice (some ⟨gP,0,none⟩) ((aD.push c1 ⟨2,0,0⟩)).ins.length wM) ((aD.push c1 ⟨2,0,0⟩)).ins:=gv.aJ ((Kept.refl (λ_=>False) (w2)).drew) (λ_ _ h=>h);refine fw (i:=c1.ins.length) (f:=1) (x:=(⟨2,0,0⟩:I3)) (y:=(⟨2,((aD.push c1 ⟨2,0,0⟩).ins.length:Int),0⟩:I3)) vv rfl yi (by decide) rfl rfl ?_;intro wP Qq RN zP;have RT:=Mk.patch ((GH).below gw) (oF.below gw) rfl Qq RN;obtain⟨pt,jh⟩:=RT;have fp:gN mb (w2) wP:=(gN.below gw (by have:=(GH).lt;have:=(GH).le;omega)).trans jh;refine⟨trivial,?_⟩;push_cast -dsimp
   have uP:∃c2:aD,c2=⟨(aD.push c1 ⟨2,0,0⟩).sets,(aD.push c1 ⟨2,0,0⟩).ins.set c1.ins.length ⟨2,((aD.push c1 ⟨2,0,0⟩).ins.length:Int),0⟩⟩:=⟨_,rfl⟩;obtain⟨c2,uP⟩:=uP;rw[<-uP]at pt;have aFD:c2.ins.length=c1.ins.length+1:=by rw[uP];simp[aD.push]
   have lV:c2.ins[c1.ins.length]?=some ⟨2,((c1.ins.length+1:Nat):Int),0⟩:=by
    rw[uP]
    show ((aD.push c1 ⟨2,0,0⟩).ins.set c1.ins.length _)[c1.ins.length]?=_
    rw[List.getElem?_set,if_pos rfl,if_pos (by omega),Z6]
   have hE2:Ext c1 c2:=by rw[uP];exact(Ext.push c1 _).set (Nat.le_refl _)
   have GY:c2.sets=c1.sets:=by rw[uP];rfl
   have kP:gN mb w1 wP:=k2.trans fp;have zP':=kP.kept.size;obtain⟨hBP,cxP,hNP,hPP⟩:=JD wP (k1o.trans (kP.out Kr) (λ_ _ h=>h));have hXP:=λb hb=>(show (Z b\/b=mb\/B<=b)/\b<wP.heap.size from by have:=hX1 b hb;exact⟨this.1,by omega⟩)
   have e2:wP.cell? ⟨xb,2,none⟩=some (.slice (some ⟨b1,o,none⟩) 1 pc):=hBP.cell rfl;push_cast -dsimp[e2,cxP];refine aF (hx aFH od nm jJ hr B mb nb back X Z _ c2 _ pt hXP mO hNP hPP (by rw[GY];omega)) ?_ ?_
   ·rintro _ w4 ⟨⟨c3,GI,Nu,OM,lW⟩,k3⟩;have yk:=kP.trans k3;have aRk:c3.sets.length<=c3.ins.length:=by have:=Nu.sum;rw[GY]at this;omega
    push_cast -dsimp;refine aF (tn GI (by omega) ⟨3,(c1.ins.length:Int),0⟩) ?_ ?_
    ·rintro _ w5 ⟨hl5,rfl,Cr,k5⟩;have CT:(aD.push c3 ⟨3,(c1.ins.length:Int),0⟩).ins[c1.ins.length]?=some ⟨2,((c1.ins.length+1:Nat):Int),0⟩:=(Ext.push c3 _).ins _ _ (Nu.ins _ _ lV);have H8:=oS c3 ⟨3,(c1.ins.length:Int),0⟩;push_cast -dsimp;have fp:=(Cr).st;obtain⟨TS,ivP,usP,oF⟩:=fp;have gv:=oF.2.2.1;obtain⟨iaP,wM,rfl⟩:=gv.slice;have RJ:=gv.sl.get CT;obtain⟨gP,oP,eP,_,_⟩:=RJ;subst eP;have wK:oP=0:=Vc.Own.Zg gv;subst wK;have RP:=(List.getElem?_eq_some_iff.1 CT).1;have Dl:=(Cr).num;have Qf:(w5).drew.cell? ⟨mb,1,none⟩=some (.slice (some ⟨gP,0,none⟩) ((aD.push c3 ⟨3,(c1.ins.length:Int),0⟩)).ins.length wM):=oF.1.drew.cell rfl;refine dV (λw'=>aM w' mb 200 [TS,.slice (some ⟨gP,0,none⟩) ((aD.push c3 ⟨3,(c1.ins.length:Int),0⟩)).ins.length wM,.map (some nb),.bool back]) mixed (by kernel_rfl) (by simp) oF.1.drew ?_;push_cast -dsimp[Qf];refine⟨λbB h=>by rw[h.cell (o:=1) rfl];exact rfl,?_⟩;have gw:=cQ (w5);refine aA (ox ((Cr).below gw)) ?_;rintro _ _ ⟨rfl,rfl⟩;refine⟨oF.1.drew,?_⟩;push_cast -dsimp;refine⟨⟨by omega,by omega⟩,?_⟩;have vv:Vc.Own B 164 3 bR (w5).drew (.slice (some ⟨gP,0,none⟩) ((aD.push c3 ⟨3,(c1.ins.length:Int),0⟩)).ins.length wM) ((aD.push c3 ⟨3,(c1.ins.length:Int),0⟩)).ins:=gv.aJ ((Kept.refl (λ_=>False) (w5)).drew) (λ_ _ h=>h);refine fw (i:=c1.ins.length) (f:=2) (x:=(⟨2,((c1.ins.length+1:Nat):Int),0⟩:I3)) (y:=(⟨2,((c1.ins.length+1:Nat):Int),((aD.push c3 ⟨3,(c1.ins.length:Int),0⟩).ins.length:Int)⟩:I3)) vv rfl CT (by decide) rfl rfl ?_;intro wP Qq RN zP
     have RT:=Mk.patch ((Cr).below gw) (oF.below gw) rfl Qq RN;obtain⟨pt,jh⟩:=RT;have fp:gN mb (w5) wP:=(gN.below gw (by have:=(Cr).lt;have:=(Cr).le;omega)).trans jh;refine⟨trivial,?_⟩;push_cast -dsimp;have RF:∃c5:aD,c5=⟨(aD.push c3 ⟨3,(c1.ins.length:Int),0⟩).sets,(aD.push c3 ⟨3,(c1.ins.length:Int),0⟩).ins.set c1.ins.length ⟨2,((c1.ins.length+1:Nat):Int),((aD.push c3 ⟨3,(c1.ins.length:Int),0⟩).ins.length:Int)⟩⟩:=⟨_,rfl⟩;obtain⟨c5,RF⟩:=RF;rw[<-RF]at pt;have aJ0:c5.ins.length=c3.ins.length+1:=by rw[RF];simp[aD.push]
     have hE5:Ext c1 c5:=by rw[RF];exact((hE2.trans Nu).trans (Ext.push c3 _)).set (Nat.le_refl _)
     have aOb:c5.ins[c1.ins.length]?=some ⟨2,((c1.ins.length+1:Nat):Int),((c5.ins.length:Nat):Int)⟩:=by
      rw[aJ0,RF]
      show ((aD.push c3 ⟨3,(c1.ins.length:Int),0⟩).ins.set c1.ins.length _)[c1.ins.length]?=_
      rw[List.getElem?_set,if_pos rfl,if_pos (by omega),H8]
     have hj5:c5.ins[c3.ins.length]?=some ⟨3,(c1.ins.length:Int),0⟩:=by
      rw[RF]
      show ((aD.push c3 ⟨3,(c1.ins.length:Int),0⟩).ins.set c1.ins.length _)[c3.ins.length]?=_
      rw[List.getElem?_set,if_neg (by omega)];exact rX c3 _
     have hs5:eK c3 c5 (c1.ins.length+1) c3.ins.length:=by
      rw[RF];exact eK.set (eK.push ((Ext.refl c3).same (Nat.le_refl _)) (Nat.le_refl _)) (.inl (by omega))
     rw[aFD]at lW;refine⟨⟨c5,pt,hE1.trans hE5,by rw[iQ];omega,?_⟩,k1.trans (yk.trans (k5.trans fp))⟩;simp only[iD,Int.toNat_natCast];refine⟨c1.ins.length,lr (A:=c.ins.length) (B:=c1.ins.length) (λa b=>hlen c1 a b) (λp q hp hq=>dU x p q ((hE5.same (Nat.le_refl _)).sub hp hq)) _ _ _ (Nat.le_refl _) (Nat.le_refl _) OH,?_⟩;rw[if_pos JI];exact⟨aOb,c3.ins.length,dU x _ _ hs5 lW,hj5,aJ0⟩
    rintro ce w5 ⟨hl5,ht,k5⟩;push_cast -dsimp;exact⟨by rw[iQ];omega,ht,k1.trans (yk.trans k5)⟩
   rintro ce w4 ⟨CV,ht,k4⟩;push_cast -dsimp;exact⟨by rw[iQ];omega,ht,k1.trans (kP.trans k4)⟩
  rintro ce w2 ⟨oy,ht,k2⟩;push_cast -dsimp;exact⟨by rw[iQ];omega,ht,k1.trans k2⟩
 rw[if_neg yX]at iQ;have hN0:∃N:Nat,hi=n+N:=⟨(hi-n).toNat,by omega⟩;obtain⟨N,rfl⟩:=hN0;have hNt:((n:Int)+(N:Int)-(n:Int)).toNat=N:=by omega
 rw[hNt]at iQ;have aUb:=hlen;have d3':w1.cell? ⟨xb,3,none⟩=some (.int .i64 (n:Int)):=n0.cell rfl;push_cast -dsimp[d3'];refine Km [6,7,8,76,77,78,79,80,81,82,83,84,85,86,87,88,89,90,91,92,93,94,95,96,97,98,99,100,101,102,103,104,105,106,107,108] (λz wx=>∃(ci:aD) (ks:List Nat) (ov:Value),z 6=ov/\Mk B mb nb back (λb=>X b\/ov.ownBlock=some b) wx ci/\Ext c1 ci/\ci.ins.length=c1.ins.length+N*(bG x+1)/\nV ci (iD (gj nm) ci back x) N c1.ins.length ks ci.ins.length/\Vc.Own w.heap.size 3 1 bH wx ov ks/\ks.length<=2000/\gN mb w wx) ?_ ?_
 ·refine aK [6,7,8,76,77,78,79,80,81,82,83,84,85,86,87,88,89,90,91,92,93,94,95,96,97,98,99,100,101,102,103,104,105,106,107,108] (λz wx=>∃(s:Nat) (ci:aD) (ks:List Nat) (ov:Value),z 7=.int .i64 ((n+s:Nat):Int)/\z 6=ov/\s<=N/\Mk B mb nb back (λb=>X b\/ov.ownBlock=some b) wx ci/\Ext c1 ci/\ci.ins.length=c1.ins.length+s*(bG x+1)/\nV ci (iD (gj nm) ci back x) s c1.ins.length ks ci.ins.length/\Vc.Own w.heap.size 3 1 bH wx ov ks/\ks.length=s/\gN mb w wx) (λz _=>N+n-(intOf (z 7)).toNat) ?_ ?_
  ·exact⟨0,c1,[],_,rfl,rfl,Nat.zero_le _,Kr.ie (λb hb=>hb.elim id (λh=>by cases h)),Ext.refl c1,by simp,by simp[nV],Vc.Own.nil (enc:=bH) _ _ (λ_=>rfl) _,rfl,k1⟩
  intro z wx hI;obtain⟨s,ci,ks,ov,h7,h6,RV,CL,CK,JH,hSx,Qt,Wq,kx⟩:=hI;have Rv:=kx.out h;have zx:=kx.kept.size;obtain⟨oE,cx,hNx,hPx⟩:=JD wx Rv;have dx4:wx.cell? ⟨xb,4,none⟩=some (.int .i64 ((n:Int)+(N:Int))):=oE.cell rfl;push_cast -dsimp[h7,h6,dx4];have oI:ci.sets.length<=ci.ins.length:=by have:=CK.sum;omega
  have fU:=Qt.block;have aBi:=CL.off Qt (by decide) (by decide) (by omega);have hXx:∀b,(X b\/ov.ownBlock=some b)->(Z b\/b=mb\/B<=b)/\b<wx.heap.size:=λb hb=>by
   rcases hb with hb|hb
   ·have:=hX b hb;exact⟨this.1,by omega⟩
   have:=fU b hb;exact⟨.inr (.inr (by omega)),this.2⟩
  refine⟨λJG=>?_,λeY=>?_⟩
  ·have hmul:(s+1)*(bG x+1)<=N*(bG x+1):=Nat.mul_le_mul_right _ (by omega);have RW:(s+1)*(bG x+1)=s*(bG x+1)+(bG x+1):=Nat.succ_mul _ _;refine aF (tn CL (by omega) ⟨2,0,0⟩) ?_ ?_
   ·rintro _ w2 ⟨oy,rfl,GH,k2⟩;have z2:=k2.kept.size;have yi:=rX ci ⟨2,0,0⟩;have Z6:=oS ci ⟨2,0,0⟩;push_cast -dsimp;have fp:=(GH).st;obtain⟨TS,ivP,usP,oF⟩:=fp;have gv:=oF.2.2.1;obtain⟨iaP,wM,rfl⟩:=gv.slice;have RJ:=gv.sl.get yi;obtain⟨gP,oP,eP,_,_⟩:=RJ;subst eP;have wK:oP=0:=Vc.Own.Zg gv;subst wK;have RP:=(List.getElem?_eq_some_iff.1 yi).1;have Dl:=(GH).num;have Qf:(w2).drew.cell? ⟨mb,1,none⟩=some (.slice (some ⟨gP,0,none⟩) ((aD.push ci ⟨2,0,0⟩)).ins.length wM):=oF.1.drew.cell rfl;refine dV (λw'=>aM w' mb 200 [TS,.slice (some ⟨gP,0,none⟩) ((aD.push ci ⟨2,0,0⟩)).ins.length wM,.map (some nb),.bool back]) mixed (by kernel_rfl) (by simp) oF.1.drew ?_;push_cast -dsimp[Qf];refine⟨λbB h=>by rw[h.cell (o:=1) rfl];exact rfl,?_⟩;have gw:=cQ (w2);refine aA (ox ((GH).below gw)) ?_;rintro _ _ ⟨rfl,rfl⟩;refine⟨oF.1.drew,?_⟩;push_cast -dsimp;refine⟨⟨by omega,by omega⟩,?_⟩;have vv:Vc.Own B 164 3 bR (w2).drew (.slice (some ⟨gP,0,none⟩) ((aD.push ci ⟨2,0,0⟩)).ins.length wM) ((aD.push ci ⟨2,0,0⟩)).ins:=gv.aJ ((Kept.refl (λ_=>False) (w2)).drew) (λ_ _ h=>h);refine fw (i:=ci.ins.length) (f:=1) (x:=(⟨2,0,0⟩:I3)) (y:=(⟨2,((aD.push ci ⟨2,0,0⟩).ins.length:Int),0⟩:I3)) vv rfl yi (by decide) rfl rfl ?_;intro wP Qq RN zP;have RT:=Mk.patch ((GH).below gw) (oF.below gw) rfl Qq RN;obtain⟨pt,jh⟩:=RT;have fp:gN mb (w2) wP:=(gN.below gw (by have:=(GH).lt;have:=(GH).le;omega)).trans jh;refine⟨trivial,?_⟩;push_cast -dsimp
    have uP:∃c2:aD,c2=⟨(aD.push ci ⟨2,0,0⟩).sets,(aD.push ci ⟨2,0,0⟩).ins.set ci.ins.length ⟨2,((aD.push ci ⟨2,0,0⟩).ins.length:Int),0⟩⟩:=⟨_,rfl⟩;obtain⟨c2,uP⟩:=uP;rw[<-uP]at pt;have aFD:c2.ins.length=ci.ins.length+1:=by rw[uP];simp[aD.push]
    have lV:c2.ins[ci.ins.length]?=some ⟨2,((ci.ins.length+1:Nat):Int),0⟩:=by
     rw[uP]
     show ((aD.push ci ⟨2,0,0⟩).ins.set ci.ins.length _)[ci.ins.length]?=_
     rw[List.getElem?_set,if_pos rfl,if_pos (by omega),Z6]
    have hE2:Ext ci c2:=by rw[uP];exact(Ext.push ci _).set (Nat.le_refl _)
    have GY:c2.sets=ci.sets:=by rw[uP];rfl
    have kP:gN mb wx wP:=k2.trans fp;have zP':=kP.kept.size;obtain⟨hBP,cxP,hNP,hPP⟩:=JD wP (Rv.trans (kP.out CL) (λ_ _ h=>h));have hXP:=λb hb=>(show (Z b\/b=mb\/B<=b)/\b<wP.heap.size from by have:=hXx b hb;exact⟨this.1,by omega⟩)
    have e2:wP.cell? ⟨xb,2,none⟩=some (.slice (some ⟨b1,o,none⟩) 1 pc):=hBP.cell rfl;push_cast -dsimp[e2,cxP];refine aF (hx aFH od nm jJ hr B mb nb back _ Z _ c2 _ pt hXP mO hNP hPP (by rw[GY];omega)) ?_ ?_
    ·rintro _ w4 ⟨⟨c3,GI,Nu,OM,lW⟩,k3⟩;have yk:=kP.trans k3;have z4:=yk.kept.size;have yg:=Qt.aJ yk.kept (λg hg hm=>aBi g hg hm);push_cast -dsimp;refine cH bo rfl rfl (by omega) ?_;intro w5 cI;have z5:=cI.size;have Cr:=GI.below cI.below;have sH:=yg.new cI;have Ww:=Cr.off sH (by decide) (by decide) (by omega);push_cast -dsimp;refine aW (base:=w.heap.size) [ci.ins.length] (enc:=bH) bo sH (by rfl) (λj u hu=>by rw[Nat.zero_add];exact cI.cell hu) (by simp[bH,Value.oneCell']) (by have:=GI.num;simp only[List.length_cons,List.length_nil];omega) (by omega) ?_;intro v6 w6 GJ Wl hn6;have aFz:Kept (λj=>ov.ownBlock=some j) w5 w6:=Kept.grown Wl (λ_ h=>h);have z6:=aFz.size;have hM6:=Cr.ZB Ww aFz hn6;have kx6:gN mb w w6:=(kx.trans (yk.trans (gN.below cI.below (by have:=GI.lt;have:=GI.le;omega)))).ZB (aFz.weaken (λj _ h=>(fU j h).1)) (by omega);have aEL:=hE2.trans Nu;have hS3:nV c3 (iD (gj nm) c3 back x) s c1.ins.length ks ci.ins.length:=EZ (A:=c1.ins.length) (λa b=>hlen ci a b) (λp q hp hq=>dU x p q ((aEL.same (Nat.le_refl _)).sub hp hq)) (aEL.same (Nat.le_refl _)) _ _ _ (Nat.le_refl _) hSx;rw[aFD]at lW OM;have hS6:nV c3 (iD (gj nm) c3 back x) (s+1) c1.ins.length (ks++[ci.ins.length]) c3.ins.length:=E0 (Nu.ins _ _ lV) lW _ _ _ hS3;push_cast -dsimp
     exact⟨⟨by omega,by omega⟩,⟨s+1,c3,_,_,by first|(push_cast;done)|(push_cast;congr 1;done)|(push_cast;congr 1;omega),rfl,by omega,hM6,CK.trans aEL,by rw[OM,JH,RW];omega,hS6,GJ,by simp[Wq],kx6⟩,by rw[h7];simp only[intOf];omega⟩
    rintro ce w4 ⟨CV,ht,k4⟩;push_cast -dsimp;exact⟨by rw[iQ];omega,ht,kx.trans (kP.trans k4)⟩
   rintro ce w2 ⟨oy,ht,k2⟩;push_cast -dsimp;exact⟨by rw[iQ];omega,ht,kx.trans k2⟩
  have hsN:s=N:=by omega
  subst hsN
  have:=CL.num;have MM:s<=s*(bG x+1):=Nat.le_mul_of_pos_right _ (by omega);exact⟨ci,ks,_,rfl,CL,CK,JH,hSx,Qt,by omega,kx⟩
 intro z w7 hJ;obtain⟨cs,ks,ov,h6,hM7,hE7,hl7,Nz,hO7,Wq,k7⟩:=hJ;have z7:=k7.kept.size;have aFr:=yq (λa b=>hlen cs a b) _ _ _ Nz;have e:∃e,e=cs.ins.length:=⟨_,rfl⟩;obtain⟨e,he⟩:=e;rw[<-he]at Nz aFr;obtain⟨oa,oc,rfl⟩:=hO7.slice;push_cast -dsimp[h6];refine aK [10,111,112,113,114,115,116,117,118,119,120,121,122,123,124,125] (λz wz=>∃(t:Nat) (ct:aD),z 111=.int .i64 t/\t<=ks.length/\Mk B mb nb back (λb=>X b\/(Value.slice oa ks.length oc).ownBlock=some b) wz ct/\kA cs ct (ks.take t) (λx=>⟨x.op,x.a,(e:Int)⟩)/\Vc.Own w.heap.size 3 1 bH wz (.slice oa ks.length oc) ks/\gN mb w wz) (λz _=>ks.length-(intOf (z 111)).toNat) ?_ ?_
 ·exact⟨0,cs,rfl,Nat.zero_le _,hM7,kA.nil cs _,hO7,k7⟩
 intro z wz hI;obtain⟨t,ct,aIu,ht,Ie,vx,hOz,kz⟩:=hI;have zz:=kz.kept.size;have Wx:=Ie.off hOz (by decide) (by decide) (by omega);have hlz:=vx.len;push_cast -dsimp[aIu];refine⟨λJG=>?_,λeY=>?_⟩
 ·obtain⟨k,hk,vW,_,hkt⟩:=ae (l:=ks) (i:=t) (by omega);obtain⟨bj,oj,hej,_,qU⟩:=hOz.sl.get hk;cases hej;have cj:wz.cell? ⟨bj,oj+t,none⟩=some (.int .i64 (k:Int)):=by simpa[bH] using qU 0 _ rfl
  have aOf:k<ct.ins.length:=by have:=aFr.2 k vW;omega
  obtain⟨xk,Tq,_⟩:=ae (l:=ct.ins) (i:=k) aOf;push_cast -dsimp[cj];refine⟨⟨by omega,by omega⟩,?_⟩;have fp:=(Ie).st;obtain⟨TS,ivP,usP,oF⟩:=fp;have gv:=oF.2.2.1;obtain⟨iaP,wM,rfl⟩:=gv.slice;have RJ:=gv.sl.get Tq;obtain⟨gP,oP,eP,_,_⟩:=RJ;subst eP;have wK:oP=0:=Vc.Own.Zg gv;subst wK;have RP:=(List.getElem?_eq_some_iff.1 Tq).1;have Dl:=(Ie).num;have Qf:(wz).drew.cell? ⟨mb,1,none⟩=some (.slice (some ⟨gP,0,none⟩) (ct).ins.length wM):=oF.1.drew.cell rfl;refine dV (λw'=>aM w' mb 200 [TS,.slice (some ⟨gP,0,none⟩) (ct).ins.length wM,.map (some nb),.bool back]) mixed (by kernel_rfl) (by simp) oF.1.drew ?_;push_cast -dsimp[Qf];refine⟨λbB h=>by rw[h.cell (o:=1) rfl];exact rfl,?_⟩;have gw:=cQ (wz);refine aA (ox ((Ie).below gw)) ?_;rintro _ _ ⟨rfl,rfl⟩;refine⟨oF.1.drew,?_⟩;push_cast -dsimp;refine⟨⟨by omega,by omega⟩,?_⟩;have vv:Vc.Own B 164 3 bR (wz).drew (.slice (some ⟨gP,0,none⟩) (ct).ins.length wM) (ct).ins:=gv.aJ ((Kept.refl (λ_=>False) (wz)).drew) (λ_ _ h=>h);refine fw (i:=k) (f:=2) (x:=xk) (y:=(⟨xk.op,xk.a,(ct.ins.length:Int)⟩:I3)) vv rfl Tq (by decide) rfl rfl ?_;intro wP Qq RN zP;have RT:=Mk.patch ((Ie).below gw) (oF.below gw) rfl Qq RN;obtain⟨pt,jh⟩:=RT;have fp:gN mb (wz) wP:=(gN.below gw (by have:=(Ie).lt;have:=(Ie).le;omega)).trans jh;refine⟨trivial,?_⟩;push_cast -dsimp;have hTn:=kA.step (g:=λx=>⟨x.op,x.a,(e:Int)⟩) (λx=>rfl) vx Tq;rw[<-hkt]at hTn;have hec:(e:Int)=(ct.ins.length:Int):=by rw[he,hlz]
  rw[hec]at hTn vx;exact⟨⟨by omega,by omega⟩,⟨t+1,_,rfl,by omega,pt,by rw[hec];exact hTn,hOz.aJ fp.kept (λg hg hm=>Wx g hg hm),kz.trans fp⟩,by rw[aIu];simp only[intOf];omega⟩
 have LA:t=ks.length:=by omega
 rw[LA,List.take_length]at vx;have aA0:∀k∈ks,c1.ins.length<=k:=λk hk=>(aFr.2 k hk).1;have hE:=hE1.trans hE7;have hIn:eK c1 ct c.ins.length c1.ins.length:=⟨λk h1 h2=>by
  rw[vx.ins k,if_neg (λhm=>by have:=aA0 k hm;omega)];exact(hE7.same (Nat.le_refl _)).1 k h1 h2,λi s hs=>by rw[vx.sets];exact hE7.sets i s hs⟩
 have hH:sQ ct (iD (gj nm) ct back x) e N c1.ins.length:=PJ (λa b=>hlen cs a b) vx (λa b hab hj=>dU x a b (vx.same hj) hab) _ _ _ (λj hj=>hj) (λj hj=>.inl hj) Nz;refine⟨⟨ct,Ie.ie (λb hb=>.inl hb),⟨λk y hy=>?_,λk s hs=>?_,?_⟩,by rw[hlz,iQ,hl7];omega,?_⟩,kz⟩
 ·have hk:=(List.getElem?_eq_some_iff.1 hy).1
  have:=hE1.sum;rw[vx.ins k,if_neg (λhm=>by have:=aA0 k hm;omega)];exact hE.ins k y hy
 ·rw[vx.sets];exact hE.sets k s hs
 ·have:=hE.sum;rw[vx.sets,hlz];exact this
 simp only[iD,Int.toNat_natCast];refine⟨c1.ins.length,lr (A:=c.ins.length) (B:=c1.ins.length) (λa b=>hlen c1 a b) (λp q hp hq=>dU x p q (hIn.sub hp hq)) _ _ _ (Nat.le_refl _) (Nat.le_refl _) OH,?_⟩;rw[if_neg yX,hNt,hlz,<-he];exact hH
theorem Zw (x:aG)(lo hi:Int)(hx:nr x):nr (.many x lo hi):=by
 intro bO od nm jJ hr B mb nb back X Z w c v h hX mO hN hV q8;simp only[gy]at jJ;have Kt:=hV;simp only[bE]at hV;obtain⟨xb,psv,u,rfl,C0,hB,_,_⟩:=hV;have hpm:=Bx (x:=x) (lo:=lo) (hi:=hi);have d0:w.cell? ⟨xb,0,none⟩=some (.int .i64 6):=hB.cell rfl;refine bI Tryz.func111 rfl (by kernel_rfl) [] rfl ?_;push_cast -dsimp(maxSteps:=9^7) [Tryz.ntmps111];push_cast -dsimp[d0];refine aF (Uy x lo hi hx bO (by omega) nm jJ hr B mb nb back X Z w c _ h hX mO hN Kt q8) ?_ ?_
 ·rintro _ w1 h1;push_cast -dsimp;exact h1
 rintro ce w1 h1;push_cast -dsimp;exact h1
theorem Zu (l:List aG)(cY:l≠[])(dD:∀y∈l,nr y):nr (.alt l):=by
 intro bO od nm jJ hr B mb nb back X Z w c v h hX mO hN hV q8;simp only[bK]at bO;simp only[gy]at jJ;have Ha:=tN.1 jJ;simp only[bE]at hV;obtain⟨xb,psv,vs,rfl,C0,hB,hs,hVl⟩:=hV;have CX:=Ef (l:=l);have aOH:=CX.2.1;obtain⟨pa,pc,rfl,aFL⟩:=hs.shape;have d0:w.cell? ⟨xb,0,none⟩=some (.int .i64 5):=hB.cell rfl;have d2:w.cell? ⟨xb,2,none⟩=some (.slice pa vs.length pc):=hB.cell rfl;refine bI Tryz.func111 rfl (by kernel_rfl) [] rfl ?_;push_cast -dsimp(maxSteps:=9^7) [Tryz.ntmps111];push_cast -dsimp[d0,d2];refine aF (aEj l cY dD bO (λy hy=>by have:=CX.2.2 y hy;omega) (by omega) nm Ha hr B mb nb back X Z w c _ vs h hX mO hN hs hVl q8) ?_ ?_
 ·rintro _ w1 h1;push_cast -dsimp;simp only[bG,iD];exact h1
 rintro ce w1 h1;push_cast -dsimp;simp only[bG];exact h1
mutual
theorem Mx:∀x,cT x->nr x
 | .one k,_=>aEm k
 | .any,_=>aEk
 | .gh,_=>Zv
 | .cat l,h=>aEl l (Gu l (by simpa only[cT] using h))
 | .alt l,h=>by
  simp only[cT]at h;exact Zu l h.1 (Gu l h.2)
 | .many x lo hi,h=>Zw x lo hi (Mx x (by simpa only[cT] using h))
theorem Gu:∀(l:List aG),gB l->∀(x:aG),x∈l->nr x
 | [],_,x,h=>by cases h
 | y::l,hn,x,h=>by
  simp only[gB]at hn;have hy:=Mx y hn.1;rcases List.mem_cons.1 h with h|h
  ·rw[h];exact hy
  exact Gu l hn.2 x h
end
theorem Ux (rb eb:Nat)(e:Int)(f0:List Value)(e0:Value)(hf:f0.length=2)(w:World)(hr:aM w rb 127 f0)(he:aM w eb 34 [e0])(cY:rb≠eb) :
  CallsD Tryz.prog 110 #[.pointer (some ⟨rb,0,none⟩),.pointer (some ⟨eb,0,none⟩)] (.panicking [{ v:=.iface 196 (.agg #[.int .i64 e]),recovered:=false }]) w λex u' w' =>
   ex=.returned (.tuple #[])/\u'=.panicking [{ v:=.iface 196 (.agg #[.int .i64 e]),recovered:=true }]/\aM w' rb 127 [.slice none 0 0,.slice none 0 0]/\aM w' eb 34 [.iface 74 (.int .i64 e)]/\Kept (λi=>i=rb\/i=eb) w w':=by
 refine callsD_of_wpS Tryz.func110 rfl λc₀ cs hu=>?_;apply wpS_seq;apply wpS_region;simp[wpOpsS,go_sem,recoverD,hu,Tryz.ntmps110,Exit.thenS];refine rf (t:=[.pointer (some ⟨rb,0,none⟩),.pointer (some ⟨eb,0,none⟩),.iface 196 (.agg #[.int .i64 e]),undef,undef,.iface 196 (.agg #[.int .i64 e]),undef,undef,undef,undef,undef,undef,undef,undef,undef,undef,undef,undef,undef,undef]) ?_;push_cast -dsimp;refine xG Tryz.underlying196 ?_;push_cast -dsimp;refine aq (z:=[.int .i64 0]) (by kernel_rfl) ?_;intro w1 aU;have C1:=aU.aL;have R1:=hr.below aU.below hr.lt;have E1:=he.below aU.below he.lt;have z1:=aU.size;push_cast -dsimp;refine aH (xt:=196) (n:=1) (by kernel_rfl) C1 rfl (by decide) (by simp[Value.oneCell']) ?_;intro w2 bJ;have C2:aM w2 w.heap.size 196 [.int .i64 e]:=bJ.aL;have Ky:=hr.lt;have xQ:=he.lt;have R2:=R1.kept bJ.kept (by omega);have E2:=E1.kept bJ.kept (by omega);push_cast -dsimp;refine b8 (λw'=>aM w' w.heap.size 196 [.int .i64 e]) mixed (by kernel_rfl) C2.drew ?_;have d2:w2.drew.cell? ⟨w.heap.size,0,none⟩=some (.int .i64 e):=C2.drew.cell rfl;push_cast -dsimp[d2];refine⟨λbB h=>by rw[aM.cell h (o:=0) rfl];exact rfl,?_⟩;refine aH (xt:=127) (n:=2) (by kernel_rfl) R2.drew rfl (by rw[hf];exact Nat.le_refl _) (by simp[Value.oneCell']) ?_;intro w3 cN;have R3:aM w3 rb 127 [.slice none 0 0,.slice none 0 0]:=by
  have:=cN.aL;rw[List.take_zero,List.nil_append,Nat.zero_add,List.drop_of_length_le (by rw[hf];exact Nat.le_refl _),List.append_nil]at this;exact this
 have C3:aM w3 w.heap.size 196 [.int .i64 e]:=C2.drew.kept cN.kept (by omega);have E3:=E2.drew.kept cN.kept (by omega);refine⟨C3,?_⟩;push_cast -dsimp;refine aC E3 (by simp) rfl ?_;intro w4 ah;have E4:aM w4 eb 34 [.iface 74 (.int .i64 e)]:=ah.aL;have R4:=R3.kept ah.kept (by omega);have C4:aM w4 w.heap.size 196 [.int .i64 e]:=C3.kept ah.kept (by omega);have k4:Kept (λi=>i=rb\/i=eb) w w4:=(((Kept.new (X:=λi=>i=rb\/i=eb) aU).trans bJ.kept (λi h1 h2=>by omega)).drew.trans cN.kept (λi _ h=>.inl h)).trans ah.kept (λi _ h=>.inr h);refine⟨C4,?_⟩;push_cast -dsimp;exact⟨rfl,_,rfl,.tuple #[],Ol (by rfl) _ _,rfl,rfl,R4,E4,k4⟩
theorem aBv (rb eb:Nat)(w:World) :
  CallsD Tryz.prog 110 #[.pointer (some ⟨rb,0,none⟩),.pointer (some ⟨eb,0,none⟩)] .returning w λe u' w'=>e=.returned (.tuple #[])/\u'=.returning/\w'=w:=by
 refine callsD_of_wpS Tryz.func110 rfl λc₀ cs hu=>?_;apply wpS_seq;apply wpS_region;simp[wpOpsS,go_sem,recoverD,hu,Tryz.ntmps110,Exit.thenS];refine rf (t:=[.pointer (some ⟨rb,0,none⟩),.pointer (some ⟨eb,0,none⟩),.nilIface,undef,undef,.nilIface,undef,undef,undef,undef,undef,undef,undef,undef,undef,undef,undef,undef,undef,undef]) ?_;push_cast -dsimp;refine⟨rfl,.returning,?_,.tuple #[],Ol (by rfl) _ _,rfl,rfl,rfl⟩;rw[<-hu]
theorem gA.top {X:Nat->Prop}{w:World}{b:Nat}{nm:ba}(h:gA X w b nm):gA (λb=>X b\/w.heap.size<=b) w b nm:=by
 obtain⟨gb,h2,h3⟩:=h;exact⟨gb,h2,h3.imp λa b h=>⟨h.1,Sl.top (by decide) h.2.1,h.2.2⟩⟩
def UC (X:Nat->Prop)(nm:ba)(back:Bool)(x:aG)(w:World)(r:Value)(w':World):Prop :=
 (∃c cv,r=.tuple #[cv,.nilIface]/\cM (λb=>X b/\b<w.heap.size) w' cv c/\fz (gj nm) back x c) \/
 (2000<bG x+1/\r=.tuple #[.agg #[.slice none 0 0,.slice none 0 0],.iface 74 (.int .i64 4)])
def aD6 (X:Nat->Prop)(nm:ba)(back:Bool)(x:aG)(w:World)(e:Ending)(w':World):Prop:=∃v,e=.returned v/\UC X nm back x w v w'/\Below w.heap.size w w'
theorem Ry {X:Nat->Prop}{nm:ba}{back:Bool}{p:aG}{w W:World}{fv:List Value}{t:Fr}(h6:t.getD 6 undef=.pointer (some ⟨w.heap.size,0,none⟩))(h7:t.getD 7 undef=.pointer (some ⟨w.heap.size+1,0,none⟩)){x:Value}
  (B1:aM W w.heap.size 127 fv) (B2:aM W (w.heap.size+1) 34 [x]) (hl:fv.length=2) (hR:UC X nm back p w (.tuple #[.agg fv.toArray,x]) W) (hb:Below w.heap.size w W) :
  bodyPostD Tryz.prog Tryz.f72 (aD6 X nm back p w) .ret ⟨t.toArray,[{ target:=.fn (.func 110) #[.pointer (some ⟨w.heap.size,0,none⟩),.pointer (some ⟨w.heap.size+1,0,none⟩)],args:=#[] }]⟩ W:=by
 show Leaves _ _ _ _ _ _ _
 refine leaves_cons (f:=110) (args:=#[.pointer (some ⟨w.heap.size,0,none⟩),.pointer (some ⟨w.heap.size+1,0,none⟩)]) (by simp) ?_ ?_
 ·simp only[invoke,Array.empty_append];exact bh Tryz.func110 (by kernel_rfl) (by kernel_rfl)
 refine(aBv w.heap.size (w.heap.size+1) W).mono ?_;rintro e u' w' ⟨rfl,rfl,rfl⟩;obtain⟨vs,hv,hk⟩:=cW (P:=Tryz.prog) (w:=w') Tryz.f72 [.cell 6 127,.cell 7 34] (by rfl) t (λvs=>vs=[.agg fv.toArray,x]) (by
  have d1:aB w' ⟨w.heap.size,0,none⟩ 0 2=some fv:=by rw[<-hl];exact B1.aB
  have d2:w'.cell? ⟨w.heap.size+1,0,none⟩=some x:=B2.cell rfl;push_cast -dsimp[h6,h7,d1,d2])
 refine⟨_,hv,_,rfl,?_,hb⟩;rw[hk];exact hR
theorem uj {X:Nat->Prop}{nm:ba}{back:Bool}{p:aG}{w W:World}{fv:List Value}{ce:List PanicEntry}{t:Fr}(h6:t.getD 6 undef=.pointer (some ⟨w.heap.size,0,none⟩))(h7:t.getD 7 undef=.pointer (some ⟨w.heap.size+1,0,none⟩)){x:Value}
  (B1:aM W w.heap.size 127 fv) (B2:aM W (w.heap.size+1) 34 [x]) (hl:fv.length=2) (hT:LP 4 ce) (hp:2000<bG p+1) (hb:Below w.heap.size w W) :
  bodyPostD Tryz.prog Tryz.f72 (aD6 X nm back p w) (.panic ce) ⟨t.toArray,[{ target:=.fn (.func 110) #[.pointer (some ⟨w.heap.size,0,none⟩),.pointer (some ⟨w.heap.size+1,0,none⟩)],args:=#[] }]⟩ W:=by
 unfold LP at hT;subst hT
 show Leaves _ _ _ _ _ _ _
 refine leaves_cons (f:=110) (args:=#[.pointer (some ⟨w.heap.size,0,none⟩),.pointer (some ⟨w.heap.size+1,0,none⟩)]) (by simp) ?_ ?_
 ·simp only[invoke,Array.empty_append];exact bh Tryz.func110 (by kernel_rfl) (by kernel_rfl)
 refine(Ux w.heap.size (w.heap.size+1) 4 fv x hl W B1 B2 (by omega)).mono ?_;rintro e' u' w' ⟨rfl,rfl,R1,R2,hk⟩;have Dc:=hb.trans (hk.below (B:=w.heap.size) hb.size (λi h=>by omega));obtain⟨vs,hv,hk⟩:=cW (P:=Tryz.prog) (w:=w') Tryz.f72 [.cell 6 127,.cell 7 34] (by rfl) t (λvs=>vs=[.agg #[.slice none 0 0,.slice none 0 0],.iface 74 (.int .i64 4)]) (by
  have d1:aB w' ⟨w.heap.size,0,none⟩ 0 2=some [.slice none 0 0,.slice none 0 0]:=R1.aB;have d2:w'.cell? ⟨w.heap.size+1,0,none⟩=some (.iface 74 (.int .i64 4)):=R2.cell rfl;push_cast -dsimp[h6,h7,d1,d2])
 show Leaves _ _ _ _ [] (settle _) _
 refine⟨_,hv,_,rfl,?_,Dc⟩;rw[hk];exact .inr ⟨hp,rfl⟩
theorem D5 (x:aG)(cY:cT x)(bO:bK x)(od:wd x<=100000)(nm:ba)(jJ:gy nm x=none)(hr:jM nm)(X:Nat->Prop)(v:Value)(nb:Nat)(back:Bool)(w:World)(hV:bE X w v x)(hN:gA X w nb nm) :
  ar Tryz.prog 72 [v,.map (some nb),.bool back] w λr w'=>UC X nm back x w r w'/\Below w.heap.size w w':=by
 unfold ar;refine⟨bh Tryz.func72 (by kernel_rfl) (by kernel_rfl),?_⟩;refine calls_of_wp_defers Tryz.func72 rfl ?_;have e:(([v,.map (some nb),.bool back]:List Value).toArray++Array.replicate (Tryz.f72.ntmps-([v,.map (some nb),.bool back]:List Value).toArray.size) undef)=(xN [v,.map (some nb),.bool back] Tryz.f72.ntmps).toArray:=by simp[xN]
 rw[e];have aOK:=hV.ptr;obtain⟨xb,rfl,hxl,hxX⟩:=aOK;have hnl:=hN.lt;simp -dsimp (maxSteps:=9^7) only[push_cast,xN,Tryz.ntmps72,List.length_cons,List.length_nil,Nat.reduceAdd,Nat.reduceSub,Nat.reduceBEq,List.replicate_succ,List.replicate_zero]
 show Code.wp _ _ (bodyPostD Tryz.prog Tryz.f72 (aD6 X nm back x w)) _ _
 refine Yj (by rfl) ?_;push_cast -dsimp;refine aq (z:=[.slice none 0 0,.slice none 0 0]) (by kernel_rfl) ?_;intro w1 aU;have R1:=aU.aL;have z1:=aU.size;have b1:=aU.below;push_cast -dsimp;refine aq (z:=[.nilIface]) (by kernel_rfl) ?_;intro w2 bJ;have E2:=bJ.aL;have R2:=R1.below bJ.below (by omega);have z2:=bJ.size;have b2:=b1.trans (bJ.below.mono (by omega));rw[z1]at E2;push_cast -dsimp[z1];refine wp_seq (ID (cap:=[.tmp 6,.tmp 7]) (by simp) ?_);simp -dsimp only[push_cast];refine YO (by rfl) ?_;push_cast -dsimp;refine aR ?_;intro w3 cN;have cN:mj w2 w3 200 [.slice none 0 0,.slice none 0 0,.map (some nb),.bool back]:=cN;have z3:=cN.size;have hrb:∃B:Nat,B=w2.heap.size+1:=⟨_,rfl⟩;obtain⟨B,hB⟩:=hrb;have b3:Below w.heap.size w w3:=b2.trans (cN.below.mono (by omega));have R3:=R2.below cN.below R2.lt;have E3:=E2.below cN.below E2.lt;have hZ:∃Z:Nat->Prop,Z=λb=>(X b/\b<w.heap.size)\/b=w.heap.size\/b=w.heap.size+1:=⟨_,rfl⟩;obtain⟨Z,hZ⟩:=hZ;have GI:Mk B w2.heap.size nb back Z w3 ⟨[],[]⟩ :=
  ⟨⟨_,_,[],cN.aL,Vc.Own.nil (enc:=jb) _ _ (λ_=>rfl) _,Vc.Own.nil (enc:=bR) _ _ (λ_=>rfl) _,rfl,(by intro h;cases h),(by intro h;cases h),(by intro g h;cases h),(by intro i u s h1 h2;simp at h1)⟩,(by omega),(by omega),(by intro s hs;cases hs),(by simp),(by simp)⟩
 have iR:∀b,(Z b\/b=w2.heap.size\/B<=b)->X b\/w.heap.size<=b:=λb hb=>by
  rw[hZ]at hb;rcases hb with (hb|hb|hb)|hb|hb
  ·exact .inl hb.1
  ·exact .inr (by omega)
  ·exact .inr (by omega)
  ·exact .inr (by omega)
  exact .inr (by omega)
 have Ih:bE (λb=>Z b\/b=w2.heap.size\/B<=b) w3 (.pointer (some ⟨xb,0,none⟩)) x:=bE.mono (Kept.refl (λ_=>False) w3) (λ_ h=>h.elim) iR (hV.top.below b3);have hN3:gA (λb=>Z b\/b=w2.heap.size\/B<=b) w3 nb nm:=gA.kept (hN.top.below b3) (Kept.refl (λ_=>False) w3) (λ_ h=>h.elim) (λh=>h) iR;push_cast -dsimp;refine aF (Mx x cY bO od nm jJ hr B w2.heap.size nb back Z Z w3 ⟨[],[]⟩ _ GI (λb hb=>⟨.inl hb,by rw[hZ]at hb;rcases hb with hb|hb|hb<;>omega⟩) (by omega) hN3 Ih (Nat.le_refl _)) ?_ ?_
 ·rintro _ w4 ⟨⟨c4,hM4,Nv,CV,hs4⟩,k4⟩;have k4o:=k4.out GI;have z4:=k4o.size;have R4:=R3.kept k4o (by omega);have E4:=E3.kept k4o (by omega);have b4:=b3.trans (k4o.below b3.size (λi h=>by omega));have CV:c4.ins.length=bG x:=by simpa using CV
  have aRl:c4.sets.length<=c4.ins.length:=by have:=Nv.sum;simpa using this
  push_cast -dsimp;refine aF (tn hM4 (by omega) ⟨5,0,0⟩) ?_ ?_
  ·rintro _ w5 ⟨hl5,rfl,Cr,k5⟩;have k5o:=k5.out hM4;have z5:=k5o.size;have R5:=R4.kept k5o (by omega);have E5:=E4.kept k5o (by omega);have b5:=b4.trans (k5o.below b4.size (λi h=>by omega));have aOW:=Cr.st;obtain⟨sv,iv,us,ZV,xO,jT,uX,fx,gZ,lW,qE⟩:=aOW;have aOy:=xO.block;have aOz:=jT.block;have RF:fz (gj nm) back x (aD.push c4 ⟨5,0,0⟩):=by
    have hlen:=oS c4 ⟨5,0,0⟩;have hy:=rX c4 ⟨5,0,0⟩;rw[CV]at hy;refine⟨?_,by omega,hy,Cr.num,?_,Cr.few⟩
    ·have h1:=hs4;rw[show ((⟨[],[]⟩:aD).ins.length)=0 from rfl,CV]at h1
     exact dU x _ _ ((Ext.push c4 _).same (by omega)) h1
    show c4.sets.length<=_
    omega
   obtain⟨sa,sc,rfl⟩:=xO.slice;obtain⟨ia,ic,rfl⟩:=jT.slice;have d5:aB w5 ⟨w2.heap.size,0,none⟩ 0 2=some [.slice sa us.length sc,.slice ia (aD.push c4 ⟨5,0,0⟩).ins.length ic]:=by
    refine aj [.slice sa us.length sc,.slice ia (aD.push c4 ⟨5,0,0⟩).ins.length ic] 0 (λj u hu=>?_);have h0:w5.cell? ⟨w2.heap.size,0,none⟩=some (.slice sa us.length sc):=ZV.cell rfl;have h1:w5.cell? ⟨w2.heap.size,1,none⟩=some (.slice ia (aD.push c4 ⟨5,0,0⟩).ins.length ic):=ZV.cell rfl;match j,hu with
    | 0,hu=>cases hu;simpa using h0
    | 1,hu=>cases hu;simpa using h1
    | _+2,hu=>simp at hu
   push_cast -dsimp[d5];refine aH (xt:=127) (n:=2) (by kernel_rfl) R5 rfl (by decide) (by simp[Value.oneCell']) ?_;intro w6 bQ;have R6:aM w6 w.heap.size 127 [.slice sa us.length sc,.slice ia (aD.push c4 ⟨5,0,0⟩).ins.length ic]:=bQ.aL;have E6:=E5.kept bQ.kept (by omega);have z6:=bQ.size;push_cast -dsimp;refine aC E6 (by simp) rfl ?_;intro w7 fB;have E7:aM w7 (w.heap.size+1) 34 [.nilIface]:=fB.aL;have R7:=R6.kept fB.kept (by omega);have k57:Kept (λi=>i=w.heap.size\/i=w.heap.size+1) w5 w7:=(bQ.kept.weaken (λi _ h=>.inl h)).trans fB.kept (λi _ h=>.inr h);have b7:=b5.trans (k57.below b5.size (λi h=>by omega));have aER:=xO.aJ k57 (λg hg h=>by have:=aOy g hg;omega);have aML:=jT.aJ k57 (λg hg h=>by have:=aOz g hg;omega);have hCV:cM (λb=>X b/\b<w.heap.size) w7 (.agg #[.slice sa us.length sc,.slice ia (aD.push c4 ⟨5,0,0⟩).ins.length ic]) (aD.push c4 ⟨5,0,0⟩) :=
    ⟨_,_,rfl,dq.rU uX (aER.sl.weaken (λb h=>by omega)) (λi u s h1 h2=>((qE i u s h1 h2).kept k57 (λj hj=>by rw[hZ];exact .inl (.inr hj))).weaken (λb hb=>by rw[hZ];exact .inl (.inl hb))),aML.sl.weaken (λb h=>by omega)⟩
   push_cast -dsimp;exact Ry (t:=_) (by rfl) (by rfl) R7 E7 rfl (.inl ⟨_,_,rfl,hCV,RF⟩) b7
  rintro ce w5 ⟨hl5,ht,k5⟩;have k5o:=k5.out hM4;push_cast -dsimp;exact uj (t:=_) (by rfl) (by rfl) (R4.kept k5o (by omega)) (E4.kept k5o (by omega)) rfl ht (by omega) (b4.trans (k5o.below b4.size (λi h=>by omega)))
 rintro ce w4 ⟨CV,ht,k4⟩;have k4o:=k4.out GI;push_cast -dsimp;exact uj (t:=_) (by rfl) (by rfl) (R3.kept k4o (by omega)) (E3.kept k4o (by omega)) rfl ht (by simpa using Nat.lt_succ_of_lt CV) (b3.trans (k4o.below b3.size (λi h=>by omega)))
theorem Lc {f:de}{nm:ba}(h:rj f=none)(hn:gm [] f.cO=.ok nm):∀r∈f.rules,gy nm r.before=none/\gy nm r.after=none:=by
 unfold rj at h;rw[hn]at h;dsimp only at h;have h1:gE nm f.rules=none:=by
  cases hr:gE nm f.rules with
  | none=>rfl
  | some e=>rw[hr]at h;cases h
 exact xr.1 h1
theorem dy.aDT {X Y:Nat->Prop}{w w':World}{cs:List Value}{r:bW}(h:dy X w cs r)(hk:Kept Y w w')(hY:∀i,Y i->X i):dy X w' cs r:=h.mono (λb hx ao=>hk.block b ao λhh=>hx (hY b hh)) (λ_ h=>h)
theorem kr.top {X:Nat->Prop}{w:World}{v:Value}{f:de}(h:kr X w v f):kr (λb=>X b\/w.heap.size<=b) w v f:=by
 obtain⟨cv,rv,cs,rs,rfl,iS,jV,hC,hR⟩:=h;exact⟨_,_,cs,rs,rfl,Sl.top (by decide) iS,Sl.top (by decide) jV,hC.imp λa c h=>h.top,hR.imp λa c h=>h.top⟩
def rz (X:Nat->Prop)(B:Nat)(f:de)(r:Value)(w':World):Prop:=match rj f with
 | some e=>∃v,r=.tuple #[.agg #[.slice none 0 0,.bool false],v]/\zD B (some e) v w'
 | none=>(∃nm p pv,gm [] f.cO=.ok nm/\r=.tuple #[pv,.nilIface]/\gd X w' pv p/\zH (gj nm) f p) \/
  (∃q∈f.rules,(2000<bG q.before+1\/2000<bG q.after+1)/\∃v,r=.tuple #[.agg #[.slice none 0 0,.bool false],v]/\zD B (some (4,q.pos)) v w')
theorem UC.cases {X:Nat->Prop}{nm:ba}{back:Bool}{x:aG}{w w':World}{r:Value}(h:UC X nm back x w r w'):∃sv iv ev,r=.tuple #[.agg #[sv,iv],ev]/\sv.oneCell'=true/\iv.oneCell'=true /\
  ((ev=.nilIface/\∃c,cM (λb=>X b/\b<w.heap.size) w' (.agg #[sv,iv]) c/\fz (gj nm) back x c)\/(ev=.iface 74 (.int .i64 4)/\2000<bG x+1)):=by
 rcases h with ⟨c,cv,rfl,hV,hC⟩|⟨hl,rfl⟩
 ·have Kt:=hV;obtain⟨sv,iv,rfl,hs,hi⟩:=hV;obtain⟨_,_,rfl,_⟩:=hs.shape;obtain⟨_,_,rfl,_⟩:=hi.shape;exact⟨_,_,_,rfl,rfl,rfl,.inl ⟨rfl,c,Kt,hC⟩⟩
 exact⟨_,_,_,rfl,rfl,rfl,.inr ⟨rfl,hl⟩⟩
theorem QE (f:de)(bO:Eh f)(od:aD9 f)(cY:∀r∈f.rules,cT r.before/\cT r.after)(ON:f.cO.length<=1000000)(hlr:f.rules.length<=1000)(X:Nat->Prop)(v:Value)(w:World)(hv:kr X w v f) :
  ar Tryz.prog 46 [v] w λr w'=>rz (λb=>X b/\b<w.heap.size) w.heap.size f r w'/\Below w.heap.size w w':=by
 have CZ:=hv;obtain⟨cv,rv,cs,rs,rfl,iS,jV,hC,hR⟩:=hv;obtain⟨ca,cc,rfl,hcc⟩:=iS.shape;obtain⟨ra,rc,rfl,hrc⟩:=jV.shape;have Ky:=dX.len hR;refine gi Tryz.func46 rfl (by kernel_rfl) [.cell 2 71,.tmp 3] rfl ?_;push_cast -dsimp(maxSteps:=9^7) [Tryz.ntmps46];refine aR ?_;intro w1 aU;have aU:mj w w1 26 [.slice ca cs.length cc,.slice ra rs.length rc,.bool f.dG]:=aU;have z1:=aU.size;push_cast -dsimp;refine aq (z:=[.slice none 0 0,.bool false]) (by kernel_rfl) ?_;intro w2 bJ;have z2:=bJ.size;have iP:=aU.below.trans (bJ.below.mono (by omega));have F2:=aU.aL.below bJ.below (by omega);have d0:aB w2 ⟨w.heap.size,0,none⟩ 0 3=some [.slice ca cs.length cc,.slice ra rs.length rc,.bool f.dG]:=F2.aB;push_cast -dsimp[d0];refine aA (Nl f bO od ON (by omega) X _ w2 (CZ.below iP)) ?_;rintro r w3 ⟨hE,gV⟩;have z3:=gV.size;have qT:=iP.trans (gV.mono (by omega));have P3:=bJ.aL.below gV (by omega);cases mo:rj f with
 | some e =>
  rw[mo]at hE;have hE0:=hE;obtain⟨c,e⟩:=e;obtain⟨eb,Dd,rfl,WU⟩:=hE;push_cast -dsimp;refine aH (n:=2) (by kernel_rfl) P3 rfl (by simp) (by simp[Value.oneCell']) ?_;intro w4 ah;have P4:aM w4 w1.heap.size 71 [.slice none 0 0,.bool false]:=ah.aL;have d4:aB w4 ⟨w1.heap.size,0,none⟩ 0 2=some [.slice none 0 0,.bool false]:=P4.aB;push_cast -dsimp[d4];refine⟨?_,qT.trans (ah.kept.below (by omega) (λi h=>by omega))⟩;unfold rz;rw[mo];exact⟨_,rfl,eb,by omega,rfl,WU.kept ah.kept (by omega)⟩
 | none =>
  rw[mo]at hE;have hE:r=.nilIface:=hE;subst hE;have qY:=Lb mo;obtain⟨nm,qY⟩:=qY;have F3:=F2.below gV (by omega);have d3:aB w3 ⟨w.heap.size,0,none⟩ 0 3=some [.slice ca cs.length cc,.slice ra rs.length rc,.bool f.dG]:=F3.aB;push_cast -dsimp[d3];refine aA (Oh f bO.1 ON _ _ w3 (CZ.top.below qT)) ?_;rintro r w4 ⟨hN,nn⟩;have z4:=nn.size;have jg:=qT.trans (nn.mono (by omega));unfold nq at hN;rw[qY]at hN;obtain⟨mb,hmb,rfl,hNV,ZY⟩:=hN;have F4:=F3.below nn (by omega);have e2:w4.cell? ⟨w.heap.size,2,none⟩=some (.bool f.dG):=F4.cell rfl;push_cast -dsimp[e2];refine aq (z:=[.slice none 0 0,.bool false]) (by kernel_rfl) ?_;intro w5 cI;have z5:=cI.size;push_cast -dsimp;refine aH (n:=2) (by kernel_rfl) cI.aL rfl (by simp) (by simp[Value.oneCell']) ?_;intro w6 bQ;have z6:=bQ.size;have Q6:aM w6 w4.heap.size 71 [.slice none 0 0,.bool f.dG]:=bQ.aL;have aJh:Below w4.heap.size w4 w6:=cI.below.trans (bQ.kept.below (by omega) (λi h=>by omega));have P4:=P3.below nn (by omega);have F6:=F4.below aJh (by omega);have f6:w6.cell? ⟨w.heap.size,1,none⟩=some (.slice ra rs.length rc):=F6.cell rfl;have Cs:∃Xc:Nat->Prop,Xc=λb=>(X b/\b<w.heap.size)\/b=w1.heap.size\/w4.heap.size<=b:=⟨_,rfl⟩;obtain⟨Xc,Cs⟩:=Cs;have hN4:gA Xc w4 mb nm:=gA.ie hNV.top (λb hb=>by
   rw[Cs]at hb;rcases hb with hb|hb|hb
   ·exact .inl ⟨.inl hb.1,by omega⟩
   ·exact .inl ⟨.inr (by omega),by omega⟩
   exact .inr hb)
  have hR4:dX (ml Xc w4) rs f.rules:=(hR.imp λa c h=>ml.top h).imp λa c h=>⟨h.1,h.2.1,bE.ie (h.2.2.1.below jg) (λb hb=>by
   rw[Cs]at hb;rcases hb with hb|hb|hb
   ·exact .inl hb.1
   ·exact .inr (by omega)
   exact .inr (by omega)),bE.ie (h.2.2.2.below jg) (λb hb=>by
   rw[Cs]at hb;rcases hb with hb|hb|hb
   ·exact .inl hb.1
   ·exact .inr (by omega)
   exact .inr (by omega))⟩
  have H0:=Lc mo qY;push_cast -dsimp[f6];refine aK [3,9,10,11,12,13,35,36,37,38,39,40,41,42,43,44,45,46,47,48,49,50,51,52,53,54,55,56,57,58,59,60,61,62,63,64,65,66,67,68,69,70,71,72,73,74,75] (λz wx=>∃(i:Nat) (ov:Value) (us:List PV) (l:List bW),z 35=.int .i64 i/\i<=f.rules.length/\aM wx w4.heap.size 71 [ov,.bool f.dG]/\Vc.Own w6.heap.size 129 5 gL wx ov us/\us.length=l.length/\(∀(k:Nat) (u:PV) (r:bW),us[k]?=some u->l[k]?=some r->dy (λb=>b=w4.heap.size\/b=w1.heap.size\/ov.ownBlock=some b\/(X b/\b<w.heap.size)) wx (gL u) r)/\dX (λ(r:bW) (q:dJ)=>r.brk=q.brk/\fz (gj nm) true q.before r.before/\fz (gj nm) false q.after r.after) l (f.rules.take i)/\Below w4.heap.size w4 wx/\w6.heap.size<=wx.heap.size) (λz _=>f.rules.length-(intOf (z 35)).toNat) ?_ ?_
  ·exact⟨0,_,[],[],rfl,Nat.zero_le _,Q6,Vc.Own.nil (enc:=gL) _ _ (λ_=>rfl) _,rfl,(by intro k u r h;simp at h),.nil,aJh,Nat.le_refl _⟩
  intro z wx hI;obtain⟨i,ov,us,l,h35,hi,hQ,hO,uX,qE,hA,MF,zx⟩:=hI;have fU:=hO.block;have Ws:=dX.len hA;rw[List.length_take]at Ws;push_cast -dsimp[h35];refine⟨λao=>?_,λeY=>?_⟩
  ·obtain⟨c,hc,tc,_,ht⟩:=ae (l:=f.rules) (i:=i) (by omega);obtain⟨x,hx,Tr,C0,LD,yi⟩:=zK hR4 hc;have hrx:=(jV.below jg).below MF;obtain⟨b1,o,rfl,mO,aP⟩:=hrx.get hx;obtain⟨xp,xb,x1,x2⟩:=x;simp only at Tr C0 LD yi;subst Tr;subst C0;have c4:aB wx ⟨b1,o+i*4,none⟩ 0 4=some [.int .i64 c.pos,.bool c.brk,.pointer (some ⟨x1,0,none⟩),.pointer (some ⟨x2,0,none⟩)]:=aj _ 0 (λj u hu=>by simpa[ja,bx] using aP j u hu);push_cast -dsimp[c4];refine⟨⟨by omega,by omega⟩,?_⟩;refine aq (z:=[.int .i64 0,.bool false,.pointer none,.pointer none]) (by kernel_rfl) ?_;intro wa fy;have za:=fy.size;push_cast -dsimp;refine aH (n:=4) (by kernel_rfl) fy.aL rfl (by simp) (by simp[Value.oneCell']) ?_;intro wb dH;have zb:=dH.size;have Rb:aM wb wx.heap.size 84 [.int .i64 c.pos,.bool c.brk,.pointer (some ⟨x1,0,none⟩),.pointer (some ⟨x2,0,none⟩)]:=dH.aL;have aJq:Below wx.heap.size wx wb:=fy.below.trans (dH.kept.below (by omega) (λi h=>by omega));have W7:=MF.trans (aJq.mono (by omega));have r2:wb.cell? ⟨wx.heap.size,2,none⟩=some (.pointer (some ⟨x1,0,none⟩)):=Rb.cell rfl;have CX:=H0 c tc;push_cast -dsimp[r2];refine aA (D5 c.before (cY c tc).1 (bO.2 c tc).1 (od c tc).1 nm CX.1 ZY Xc _ mb true wb (LD.below W7) (hN4.below W7)) ?_;rintro _ wc ⟨hK1,vy⟩;have zc:=vy.size;obtain⟨s1,i1,ev1,rfl,o1,p1,hK1⟩:=hK1.cases;have aNr:=aJq.trans (vy.mono (by omega));push_cast -dsimp;refine aq (z:=[.slice none 0 0,.slice none 0 0]) (by kernel_rfl) ?_;intro wd iU;have zd:=iU.size;push_cast -dsimp
   refine aH (n:=2) (by kernel_rfl) iU.aL rfl (by simp) (by simp[o1,p1]) ?_;intro we lG;have ze:=lG.size;have C1e:aM we wc.heap.size 127 [s1,i1]:=lG.aL;have aFd:Below wc.heap.size wc we:=iU.below.trans (lG.kept.below (by omega) (λi h=>by omega));have We:=aNr.trans (aFd.mono (by omega));have Qx:=MF.trans (We.mono (by omega));have Re:=(Rb.below vy (by omega)).below aFd (by omega);have r3:we.cell? ⟨wx.heap.size,3,none⟩=some (.pointer (some ⟨x2,0,none⟩)):=Re.cell rfl;push_cast -dsimp[r3];refine aA (D5 c.after (cY c tc).2 (bO.2 c tc).2 (od c tc).2 nm CX.2 ZY Xc _ mb false we (yi.below Qx) (hN4.below Qx)) ?_;rintro _ wf ⟨hK2,Wa⟩;have zf:=Wa.size;obtain⟨s2,i2,ev2,rfl,o2,p2,hK2⟩:=hK2.cases;have aNs:=We.trans (Wa.mono (by omega));push_cast -dsimp;refine aq (z:=[.slice none 0 0,.slice none 0 0]) (by kernel_rfl) ?_;intro wg lH;have zg:=lH.size;push_cast -dsimp;refine aH (n:=2) (by kernel_rfl) lH.aL rfl (by simp) (by simp[o2,p2]) ?_;intro wh LB;have zh:=LB.size;have C2h:aM wh wf.heap.size 127 [s2,i2]:=LB.aL;have Wb:Below wf.heap.size wf wh:=lH.below.trans (LB.kept.below (by omega) (λi h=>by omega));have RB:=aNs.trans (Wb.mono (by omega));have zxh:=RB.size;have GP:=MF.trans (RB.mono (by omega));have Rh:=(Re.below Wa (by omega)).below Wb (by omega);have C1h:=(C1e.below Wa (by omega)).below Wb (by omega);rcases hK1 with ⟨rfl,k1,hV1,hC1⟩|⟨rfl,vX⟩
   ·rcases hK2 with ⟨rfl,k2,pw,hC2⟩|⟨rfl,oy⟩
    ·have dQ:wh.cell? ⟨w4.heap.size,0,none⟩=some ov:=(hQ.below RB (by omega)).cell rfl;have r1:wh.cell? ⟨wx.heap.size,1,none⟩=some (.bool c.brk):=Rh.cell rfl;have dC1:aB wh ⟨wc.heap.size,0,none⟩ 0 2=some [s1,i1]:=C1h.aB;have dC2:aB wh ⟨wf.heap.size,0,none⟩ 0 2=some [s2,i2]:=C2h.aB;have aMZ:=hV1;have aM1:=pw;obtain⟨sv1,iv1,aI9,aOX,aN3⟩:=aMZ;obtain⟨sv2,iv2,aJa,RX,GX⟩:=aM1;simp only[Value.agg.injEq,Array.mk.injEq,List.cons.injEq,and_true]at aI9 aJa;obtain⟨rfl,rfl⟩:=aI9;obtain⟨rfl,rfl⟩:=aJa;obtain⟨a1,n1,rfl,_⟩:=aOX.shape;obtain⟨a2,n2,rfl,_⟩:=aN3.shape;obtain⟨a3,n3,rfl,_⟩:=RX.shape;obtain⟨a4,n4,rfl,_⟩:=GX.shape;push_cast -dsimp[dQ,r1,dC1,dC2];refine cH vo rfl rfl (by omega) ?_;intro wr hwr;have zr:=hwr.size;have aAY:=RB.trans (hwr.below.mono (by omega));have hOr:=hO.below aAY;have hQr:=hQ.below aAY (by omega);push_cast -dsimp;refine aW (base:=w6.heap.size) [(⟨c.brk,⟨a1,k1.sets.length,n1⟩,⟨a2,k1.ins.length,n2⟩,⟨a3,k2.sets.length,n3⟩,⟨a4,k2.ins.length,n4⟩⟩:PV)] (enc:=gL) vo hOr (by rfl) (λj u hu=>by rw[Nat.zero_add];exact hwr.cell hu) vp (by simp only[List.length_cons,List.length_nil];omega) (by omega) ?_;intro vq wq hOq hgq hnq;have H7:Kept (λj=>ov.ownBlock=some j) wr wq:=Kept.grown hgq (λ_ h=>h);have zq:=H7.size;have Gq:=hQr.kept H7 (λh=>by have:=fU _ h;omega);have aOA:=hOq.block;obtain⟨qa,qc,rfl⟩:=hOq.slice;push_cast -dsimp;refine aC Gq (by simp) rfl ?_;intro ws hws;have zs:=hws.size
     have Qs:aM ws w4.heap.size 71 [.slice qa (us++[(⟨c.brk,⟨a1,k1.sets.length,n1⟩,⟨a2,k1.ins.length,n2⟩,⟨a3,k2.sets.length,n3⟩,⟨a4,k2.ins.length,n4⟩⟩:PV)]).length qc,.bool f.dG]:=hws.aL;have hOs:=hOq.aJ hws.kept (λg hg h=>by have:=aOA g hg;have h':g=w4.heap.size:=h;omega);have krs:Kept (λj=>j=w4.heap.size\/ov.ownBlock=some j) wr ws:=(H7.weaken (λj _ h=>.inr h)).trans hws.kept (λj _ h=>.inl h);have hY:∃Y:Nat->Prop,Y=λb=>(b=w4.heap.size\/b=w1.heap.size\/ov.ownBlock=some b\/(X b/\b<w.heap.size))\/wr.heap.size<=b:=⟨_,rfl⟩;obtain⟨Y,hY⟩:=hY;have hkY:∀j,(j=w4.heap.size\/ov.ownBlock=some j)->Y j:=λj h=>by
      rw[hY];rcases h with h|h
      ·exact .inl (.inl h)
      exact .inl (.inr (.inr (.inl h)))
     have hYs:∀b,(b=w4.heap.size\/b=w1.heap.size\/(Value.slice qa (us++[(⟨c.brk,⟨a1,k1.sets.length,n1⟩,⟨a2,k1.ins.length,n2⟩,⟨a3,k2.sets.length,n3⟩,⟨a4,k2.ins.length,n4⟩⟩:PV)]).length qc).ownBlock=some b\/(X b/\b<w.heap.size))->Y b:=λb hb=>by
      rw[hY];rcases hb with hb|hb|hb|hb
      ·exact .inl (.inl hb)
      ·exact .inl (.inr (.inl hb))
      ·rcases hnq b hb with h|h
       ·exact .inl (.inr (.inr (.inl h)))
       exact .inr h
      exact .inl (.inr (.inr (.inr hb)))
     have hcw:∀b,b<wr.heap.size->Y b->Xc b/\b<wb.heap.size:=λb hb hy=>by
      rw[hY]at hy;rw[Cs];rcases hy with (hy|hy|hy|hy)|hy
      ·exact⟨.inr (.inr (by omega)),by omega⟩
      ·exact⟨.inr (.inl hy),by have:=jg.size;omega⟩
      ·have:=fU b hy;exact⟨.inr (.inr (by omega)),by omega⟩
      ·exact⟨.inl hy,by have:=jg.size;omega⟩
      omega
     have aNm:Below wc.heap.size wc wr:=aFd.trans ((Wa.mono (by omega)).trans ((Wb.mono (by omega)).trans (hwr.below.mono (by omega))));have aNo:Below wf.heap.size wf wr:=Wb.trans (hwr.below.mono (by omega));have aM0:cM Y ws (.agg #[.slice a1 k1.sets.length n1,.slice a2 k1.ins.length n2]) k1:=cM.kept ((hV1.below aNm).narrow hcw) krs hkY;have aM3:cM Y ws (.agg #[.slice a3 k2.sets.length n3,.slice a4 k2.ins.length n4]) k2:=cM.kept ((pw.below aNo).narrow (λb hb hy=>by have:=hcw b hb hy;exact⟨this.1,by omega⟩)) krs hkY;have aO5:∀(k:Nat) (u:PV) (r:bW),(us++[(⟨c.brk,⟨a1,k1.sets.length,n1⟩,⟨a2,k1.ins.length,n2⟩,⟨a3,k2.sets.length,n3⟩,⟨a4,k2.ins.length,n4⟩⟩:PV)])[k]?=some u->(l++[(⟨c.brk,k1,k2⟩:bW)])[k]?=some r->dy (λb=>b=w4.heap.size\/b=w1.heap.size\/(Value.slice qa (us++[(⟨c.brk,⟨a1,k1.sets.length,n1⟩,⟨a2,k1.ins.length,n2⟩,⟨a3,k2.sets.length,n3⟩,⟨a4,k2.ins.length,n4⟩⟩:PV)]).length qc).ownBlock=some b\/(X b/\b<w.heap.size)) ws (gL u) r:=λk u r h1 h2=>by
      have Wq:k<(us++[(⟨c.brk,⟨a1,k1.sets.length,n1⟩,⟨a2,k1.ins.length,n2⟩,⟨a3,k2.sets.length,n3⟩,⟨a4,k2.ins.length,n4⟩⟩:PV)]).length:=(List.getElem?_eq_some_iff.1 h1).1;by_cases hk:k<us.length
      ·rw[List.getElem?_append_left hk]at h1;rw[List.getElem?_append_left (by omega)]at h2;have h3:=((qE k u r h1 h2).below aAY).narrow (X':=Y) (λb hb hy=>by
        rw[hY]at hy;rcases hy with hy|hy
        ·exact hy
        omega)
       exact(h3.aDT krs hkY).narrow (λb _ hb=>hYs b hb)
      have eR:k=us.length:=by rw[List.length_append,List.length_cons,List.length_nil]at Wq;omega
      subst eR;rw[List.getElem?_append_right (Nat.le_refl _),Nat.sub_self]at h1;rw[uX,List.getElem?_append_right (Nat.le_refl _),Nat.sub_self]at h2;simp at h1 h2;subst h1;subst h2;exact⟨_,_,_,_,rfl,aM0.narrow (λb _ hb=>hYs b hb),aM3.narrow (λb _ hb=>hYs b hb)⟩
     have aNk:Below w4.heap.size w4 ws:=MF.trans ((aAY.mono (by omega)).trans (krs.below (by omega) (λj h=>by
      rcases h with h|h
      ·omega
      have:=fU j h;omega)))
     push_cast -dsimp;refine⟨⟨by omega,by omega⟩,⟨i+1,_,_,l++[(⟨c.brk,k1,k2⟩:bW)],rfl,by omega,Qs,hOs,by simp[uX],aO5,by rw[ht];exact dX.snoc hA ⟨rfl,hC1,hC2⟩,aNk,by omega⟩,by rw[h35];simp only[intOf];omega⟩
    skip;push_cast -dsimp;have r0:wh.drew.cell? ⟨wx.heap.size,0,none⟩=some (.int .i64 c.pos):=Rh.drew.cell rfl;have CM:∀bB,aM bB wx.heap.size 84 [.int .i64 c.pos,.bool c.brk,.pointer (some ⟨x1,0,none⟩),.pointer (some ⟨x2,0,none⟩)]->bB.cell? ⟨wx.heap.size,0,none⟩=some (.int .i64 c.pos):=λbB h=>h.cell rfl;refine vS (.one 0 (.one 1 (.one 2 (.one 3 (.two 4 (.one 5 (.one 6 (.one 7 .done))) 6 (.one 4 (.one 5 (.one 7 .done)))))))) (λw'=>aM w' wx.heap.size 84 [.int .i64 c.pos,.bool c.brk,.pointer (some ⟨x1,0,none⟩),.pointer (some ⟨x2,0,none⟩)]) mixed (by kernel_rfl) Rh.drew ?_;push_cast -dsimp[r0];refine⟨λbB h=>by rw[CM bB h];exact rfl,?_,?_⟩
    ·refine aR ?_;intro wi gT;have gT:mj wh.drew wi 143 [.int .i64 4,.int .i64 c.pos]:=gT;have zi:wi.heap.size=wh.heap.size+1:=gT.size;have Ip:Below wh.heap.size wh wi:=(cQ wh).trans (gT.below.mono (Nat.le_refl _));have Ri:=Rh.below Ip (by omega);refine⟨Ri,?_⟩;have AN:=GP.trans (Ip.mono (by omega));have Pi:=P4.below AN (by omega);push_cast -dsimp;refine aH (n:=2) (by kernel_rfl) Pi rfl (by simp) (by simp[Value.oneCell']) ?_;intro wj ff;have Pj:aM wj w1.heap.size 71 [.slice none 0 0,.bool false]:=ff.aL;have dj:aB wj ⟨w1.heap.size,0,none⟩ 0 2=some [.slice none 0 0,.bool false]:=Pj.aB;refine⟨Ri.kept ff.kept (by omega),?_⟩;push_cast -dsimp[dj];refine⟨?_,(jg.trans (AN.mono (by omega))).trans (ff.kept.below (by have:=AN.size;omega) (λi h=>by omega))⟩;unfold rz;rw[mo];exact .inr ⟨c,tc,.inr oy,_,rfl,wh.heap.size,by omega,rfl,gT.aL.kept ff.kept (by show ¬wh.heap.size=w1.heap.size;omega)⟩
    have Pd:=(P4.below GP (by omega)).drew;refine aH (n:=2) (by kernel_rfl) Pd rfl (by simp) (by simp[Value.oneCell']) ?_;intro wi gT;have zi:wi.heap.size=wh.heap.size:=gT.size;have Pi:aM wi w1.heap.size 71 [.slice none 0 0,.bool false]:=gT.aL;have Ri:=Rh.drew.kept gT.kept (by omega);refine⟨Ri,?_⟩;push_cast -dsimp;refine aR ?_;intro wj ff;have ff:mj wi wj 143 [.int .i64 4,.int .i64 c.pos]:=ff;have Pj:=Pi.below ff.below Pi.lt;have dj:aB wj ⟨w1.heap.size,0,none⟩ 0 2=some [.slice none 0 0,.bool false]:=Pj.aB;refine⟨Ri.below ff.below Ri.lt,?_⟩;push_cast -dsimp[dj];have uO:Below w.heap.size w wh:=jg.trans (GP.mono (by omega));have H6:Kept (λi=>i=w1.heap.size) wh wi:=((Kept.refl (λi=>i=w1.heap.size) wh).drew).trans gT.kept (λ_ _ h=>h);refine⟨?_,(uO.trans (H6.below (by have:=uO.size;omega) (λi h=>by omega))).trans (ff.below.mono (by have:=uO.size;omega))⟩;unfold rz;rw[mo];exact .inr ⟨c,tc,.inr oy,_,rfl,wi.heap.size,by have:=uO.size;omega,rfl,ff.aL⟩
   rcases hK2 with ⟨rfl,k2,pw,hC2⟩|⟨rfl,oy⟩
   ·skip;push_cast -dsimp;have r0:wh.drew.cell? ⟨wx.heap.size,0,none⟩=some (.int .i64 c.pos):=Rh.drew.cell rfl;have CM:∀bB,aM bB wx.heap.size 84 [.int .i64 c.pos,.bool c.brk,.pointer (some ⟨x1,0,none⟩),.pointer (some ⟨x2,0,none⟩)]->bB.cell? ⟨wx.heap.size,0,none⟩=some (.int .i64 c.pos):=λbB h=>h.cell rfl;refine vS (.one 0 (.one 1 (.one 2 (.one 3 (.two 4 (.one 5 (.one 6 (.one 7 .done))) 6 (.one 4 (.one 5 (.one 7 .done)))))))) (λw'=>aM w' wx.heap.size 84 [.int .i64 c.pos,.bool c.brk,.pointer (some ⟨x1,0,none⟩),.pointer (some ⟨x2,0,none⟩)]) mixed (by kernel_rfl) Rh.drew ?_;push_cast -dsimp[r0];refine⟨λbB h=>by rw[CM bB h];exact rfl,?_,?_⟩
    ·refine aR ?_;intro wi gT;have gT:mj wh.drew wi 143 [.int .i64 4,.int .i64 c.pos]:=gT;have zi:wi.heap.size=wh.heap.size+1:=gT.size;have Ip:Below wh.heap.size wh wi:=(cQ wh).trans (gT.below.mono (Nat.le_refl _));have Ri:=Rh.below Ip (by omega);refine⟨Ri,?_⟩;have AN:=GP.trans (Ip.mono (by omega));have Pi:=P4.below AN (by omega);push_cast -dsimp;refine aH (n:=2) (by kernel_rfl) Pi rfl (by simp) (by simp[Value.oneCell']) ?_;intro wj ff;have Pj:aM wj w1.heap.size 71 [.slice none 0 0,.bool false]:=ff.aL;have dj:aB wj ⟨w1.heap.size,0,none⟩ 0 2=some [.slice none 0 0,.bool false]:=Pj.aB;refine⟨Ri.kept ff.kept (by omega),?_⟩;push_cast -dsimp[dj];refine⟨?_,(jg.trans (AN.mono (by omega))).trans (ff.kept.below (by have:=AN.size;omega) (λi h=>by omega))⟩;unfold rz;rw[mo];exact .inr ⟨c,tc,.inl vX,_,rfl,wh.heap.size,by omega,rfl,gT.aL.kept ff.kept (by show ¬wh.heap.size=w1.heap.size;omega)⟩
    have Pd:=(P4.below GP (by omega)).drew;refine aH (n:=2) (by kernel_rfl) Pd rfl (by simp) (by simp[Value.oneCell']) ?_;intro wi gT;have zi:wi.heap.size=wh.heap.size:=gT.size;have Pi:aM wi w1.heap.size 71 [.slice none 0 0,.bool false]:=gT.aL;have Ri:=Rh.drew.kept gT.kept (by omega);refine⟨Ri,?_⟩;push_cast -dsimp;refine aR ?_;intro wj ff;have ff:mj wi wj 143 [.int .i64 4,.int .i64 c.pos]:=ff;have Pj:=Pi.below ff.below Pi.lt;have dj:aB wj ⟨w1.heap.size,0,none⟩ 0 2=some [.slice none 0 0,.bool false]:=Pj.aB;refine⟨Ri.below ff.below Ri.lt,?_⟩;push_cast -dsimp[dj];have uO:Below w.heap.size w wh:=jg.trans (GP.mono (by omega));have H6:Kept (λi=>i=w1.heap.size) wh wi:=((Kept.refl (λi=>i=w1.heap.size) wh).drew).trans gT.kept (λ_ _ h=>h);refine⟨?_,(uO.trans (H6.below (by have:=uO.size;omega) (λi h=>by omega))).trans (ff.below.mono (by have:=uO.size;omega))⟩;unfold rz;rw[mo];exact .inr ⟨c,tc,.inl vX,_,rfl,wi.heap.size,by have:=uO.size;omega,rfl,ff.aL⟩
   skip;push_cast -dsimp;have r0:wh.drew.cell? ⟨wx.heap.size,0,none⟩=some (.int .i64 c.pos):=Rh.drew.cell rfl;have CM:∀bB,aM bB wx.heap.size 84 [.int .i64 c.pos,.bool c.brk,.pointer (some ⟨x1,0,none⟩),.pointer (some ⟨x2,0,none⟩)]->bB.cell? ⟨wx.heap.size,0,none⟩=some (.int .i64 c.pos):=λbB h=>h.cell rfl;refine vS (.one 0 (.one 1 (.one 2 (.one 3 (.two 4 (.one 5 (.one 6 (.one 7 .done))) 6 (.one 4 (.one 5 (.one 7 .done)))))))) (λw'=>aM w' wx.heap.size 84 [.int .i64 c.pos,.bool c.brk,.pointer (some ⟨x1,0,none⟩),.pointer (some ⟨x2,0,none⟩)]) mixed (by kernel_rfl) Rh.drew ?_;push_cast -dsimp[r0];refine⟨λbB h=>by rw[CM bB h];exact rfl,?_,?_⟩
   ·refine aR ?_;intro wi gT;have gT:mj wh.drew wi 143 [.int .i64 4,.int .i64 c.pos]:=gT;have zi:wi.heap.size=wh.heap.size+1:=gT.size;have Ip:Below wh.heap.size wh wi:=(cQ wh).trans (gT.below.mono (Nat.le_refl _));have Ri:=Rh.below Ip (by omega);refine⟨Ri,?_⟩;have AN:=GP.trans (Ip.mono (by omega));have Pi:=P4.below AN (by omega);push_cast -dsimp;refine aH (n:=2) (by kernel_rfl) Pi rfl (by simp) (by simp[Value.oneCell']) ?_;intro wj ff;have Pj:aM wj w1.heap.size 71 [.slice none 0 0,.bool false]:=ff.aL;have dj:aB wj ⟨w1.heap.size,0,none⟩ 0 2=some [.slice none 0 0,.bool false]:=Pj.aB;refine⟨Ri.kept ff.kept (by omega),?_⟩;push_cast -dsimp[dj];refine⟨?_,(jg.trans (AN.mono (by omega))).trans (ff.kept.below (by have:=AN.size;omega) (λi h=>by omega))⟩;unfold rz;rw[mo];exact .inr ⟨c,tc,.inl vX,_,rfl,wh.heap.size,by omega,rfl,gT.aL.kept ff.kept (by show ¬wh.heap.size=w1.heap.size;omega)⟩
   have Pd:=(P4.below GP (by omega)).drew;refine aH (n:=2) (by kernel_rfl) Pd rfl (by simp) (by simp[Value.oneCell']) ?_;intro wi gT;have zi:wi.heap.size=wh.heap.size:=gT.size;have Pi:aM wi w1.heap.size 71 [.slice none 0 0,.bool false]:=gT.aL;have Ri:=Rh.drew.kept gT.kept (by omega);refine⟨Ri,?_⟩;push_cast -dsimp;refine aR ?_;intro wj ff;have ff:mj wi wj 143 [.int .i64 4,.int .i64 c.pos]:=ff;have Pj:=Pi.below ff.below Pi.lt;have dj:aB wj ⟨w1.heap.size,0,none⟩ 0 2=some [.slice none 0 0,.bool false]:=Pj.aB;refine⟨Ri.below ff.below Ri.lt,?_⟩;push_cast -dsimp[dj];have uO:Below w.heap.size w wh:=jg.trans (GP.mono (by omega));have H6:Kept (λi=>i=w1.heap.size) wh wi:=((Kept.refl (λi=>i=w1.heap.size) wh).drew).trans gT.kept (λ_ _ h=>h);refine⟨?_,(uO.trans (H6.below (by have:=uO.size;omega) (λi h=>by omega))).trans (ff.below.mono (by have:=uO.size;omega))⟩;unfold rz;rw[mo];exact .inr ⟨c,tc,.inl vX,_,rfl,wi.heap.size,by have:=uO.size;omega,rfl,ff.aL⟩
  rw[List.take_of_length_le (by omega)]at hA;obtain⟨oa,oc,rfl⟩:=hO.slice;have dQ:aB wx ⟨w4.heap.size,0,none⟩ 0 2=some [.slice oa us.length oc,.bool f.dG]:=hQ.aB;have Px:=P4.below MF (by omega);push_cast -dsimp[dQ];refine aH (n:=2) (by kernel_rfl) Px rfl (by simp) (by simp[Value.oneCell']) ?_;intro wj ff;have Pj:aM wj w1.heap.size 71 [.slice oa us.length oc,.bool f.dG]:=ff.aL;have dj:aB wj ⟨w1.heap.size,0,none⟩ 0 2=some [.slice oa us.length oc,.bool f.dG]:=Pj.aB;have hOj:=hO.aJ ff.kept (λg hg h=>by have:=fU g hg;have h':g=w1.heap.size:=h;omega);have MI:Below w.heap.size w wx:=jg.trans (MF.mono (by omega));push_cast -dsimp[dj];refine⟨?_,MI.trans (ff.kept.below (by have:=MI.size;omega) (λi h=>by omega))⟩;unfold rz;rw[mo];refine .inl ⟨nm,⟨l,f.dG⟩,_,qY,rfl,⟨_,rfl,(vB (R:=dy (λb=>X b/\b<w.heap.size) wj) hOj uX (λk r hr=>?_)).weaken (λb hb=>by have:=hb.2;omega)⟩,rfl,hA⟩;obtain⟨u,hu,_⟩:=ae (l:=us) (i:=k) (by have:=(List.getElem?_eq_some_iff.1 hr).1;omega);exact⟨u,hu,((qE k u r hu hr).aDT ff.kept (λj h=>.inr (.inl h))).narrow (λb _ hb=>.inr (.inr (.inr hb)))⟩
end Go.Proofs.YtemjejfpadnljaaGreatDoor
