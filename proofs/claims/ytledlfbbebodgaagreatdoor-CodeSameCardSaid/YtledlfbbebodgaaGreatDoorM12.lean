/- Lemmas. -/
import Derived.Test.YtledlfbbebodgaaGreatDoorM11
set_option maxRecDepth 100000
set_option linter.unusedSimpArgs false
set_option linter.unusedVariables false
set_option maxHeartbeats 8000000
section
namespace Cae
mutual
def clen:PatP→Nat
 | .one _=>1
 | .any=>1
 | .edge=>1
 | .cat l=>clenL l
 | .alt l=>clenA l
 | .many x lo hi=>lo.toNat*clen x+if hi<0 then clen x+2 else (hi-lo).toNat*(clen x+1)
def clenL:List PatP→Nat
 | []=>0
 | x::l=>clen x+clenL l
def clenA:List PatP→Nat
 | []=>0
 | x::l=>if l=[] then clen x else clen x+2+clenA l
end
section
variable {has:KindP→Int→Prop} {c c':CodeP} {back:Bool}
theorem iter_len {S:Nat→Nat→Prop}{k:Nat}(h:∀a b,S a b→b=a+k):∀n a b,iterM S n a b→b=a+n*k
 | 0,a,b,e=>by cases e;simp
 | n+1,a,b,⟨m,h1,h2⟩=>by
  have:=h a m h1;have:=iter_len h n m b h2;rw[Nat.succ_mul];omega
theorem hi_len {S:Nat→Nat→Prop}{k e:Nat}(h:∀a b,S a b→b=a+k):∀t m,segHi c S e t m→e=m+t*(k+1)
 | 0,m,e=>by cases e;simp
 | t+1,m,⟨_,m',h1,h2⟩=>by
  have:=h _ m' h1;have:=hi_len h t m' h2;rw[Nat.succ_mul];omega
mutual
theorem seg_len:∀(x:PatP) (a b:Nat),Seg has c back x a b→b=a+clen x
 | .one k,a,b,h=>by simp only[Seg]at h;exact h.1
 | .any,a,b,h=>by simp only[Seg]at h;exact h.1
 | .edge,a,b,h=>by simp only[Seg]at h;exact h.1
 | .cat l,a,b,h=>by
  simp only[Seg]at h;split at h
  ·exact segB_len l a b h
  ·exact segF_len l a b h
 | .alt l,a,b,h=>by simp only[Seg]at h;exact segA_len l a b h
 | .many x lo hi,a,b,h=>by
  simp only[Seg]at h;obtain⟨m,h1,h2⟩:=h;have e1:=iter_len (fun a b=>seg_len x a b) _ _ _ h1;simp only[clen];split at h2
  ·rename_i hn;obtain⟨_,e,h3,_,rfl⟩:=h2;have e2:=seg_len x _ _ h3;rw[if_pos hn];omega
  ·rename_i hn;have e2:=hi_len (fun a b=>seg_len x a b) _ _ h2;rw[if_neg hn];omega
theorem segF_len:∀(l:List PatP) (a b:Nat),SegF has c back l a b→b=a+clenL l
 | [],a,b,h=>by simp only[SegF]at h;simp only[clenL];omega
 | x::l,a,b,h=>by
  simp only[SegF]at h;obtain⟨m,h1,h2⟩:=h;have e1:=seg_len x _ _ h1;have e2:=segF_len l _ _ h2;simp only[clenL];omega
theorem segB_len:∀(l:List PatP) (a b:Nat),SegB has c back l a b→b=a+clenL l
 | [],a,b,h=>by simp only[SegB]at h;simp only[clenL];omega
 | x::l,a,b,h=>by
  simp only[SegB]at h;obtain⟨m,h1,h2⟩:=h;have e1:=segB_len l _ _ h1;have e2:=seg_len x _ _ h2;simp only[clenL];omega
theorem segA_len:∀(l:List PatP) (a b:Nat),SegA has c back l a b→b=a+clenA l
 | [],a,b,h=>by simp only[SegA]at h
 | x::l,a,b,h=>by
  simp only[SegA]at h;simp only[clenA];rcases h with ⟨rfl,h⟩|⟨hne,m,_,h1,_,h2⟩
  ·rw[if_pos rfl];exact seg_len x _ _ h
  ·have e1:=seg_len x _ _ h1;have e2:=segA_len l _ _ h2;rw[if_neg hne];omega
end
def SameIn (c c':CodeP)(a b:Nat):Prop:=(∀k,a≤k→k<b→c'.ins[k]?=c.ins[k]?)∧∀(i:Nat) (s:List Rg),c.sets[i]?=some s→c'.sets[i]?=some s
theorem SameIn.sub {a b a' b':Nat}(h:SameIn c c' a b)(h1:a≤a')(h2:b'≤b):SameIn c c' a' b':=⟨fun k h3 h4=>h.1 k (by omega) (by omega),h.2⟩
theorem iter_same {S S':Nat→Nat→Prop}{k A B:Nat}(hl:∀a b,S a b→b=a+k)(h:∀a b,A≤a→b≤B→S a b→S' a b):∀n a b,A≤a→b≤B→iterM S n a b→iterM S' n a b
 | 0,a,b,_,_,e=>e
 | n+1,a,b,ha,hb,⟨m,h1,h2⟩=>by
  have e1:=hl a m h1;have e2:=iter_len hl n m b h2;exact⟨m,h a m ha (by omega) h1,iter_same hl h n m b (by omega) hb h2⟩
theorem hi_same {S S':Nat→Nat→Prop}{k A B:Nat}(hl:∀a b,S a b→b=a+k)(h:∀a b,A≤a→b≤B→S a b→S' a b)(hc:∀k,A≤k→k<B→c'.ins[k]?=c.ins[k]?):∀t m,A≤m→segHi c S B t m→segHi c' S' B t m
 | 0,m,_,e=>e
 | t+1,m,hm,⟨hx,m',h1,h2⟩=>by
  have e1:=hl _ m' h1;have e2:=hi_len hl t m' h2;exact⟨by rw[hc m hm (by omega)];exact hx,m',h _ _ (by omega) (by omega) h1,hi_same hl h hc t m' (by omega) h2⟩
mutual
theorem seg_same:∀(x:PatP) (a b:Nat),SameIn c c' a b→Seg has c back x a b→Seg has c' back x a b
 | .one k,a,b,hs,h=>by
  simp only[Seg]at h ⊢;obtain⟨rfl,i,s,h1,h2,h3⟩:=h;exact⟨rfl,i,s,by rw[hs.1 a (by omega) (by omega)];exact h1,hs.2 i s h2,h3⟩
 | .any,a,b,hs,h=>by
  simp only[Seg]at h ⊢;obtain⟨rfl,i,s,h1,h2,h3⟩:=h;exact⟨rfl,i,s,by rw[hs.1 a (by omega) (by omega)];exact h1,hs.2 i s h2,h3⟩
 | .edge,a,b,hs,h=>by
  simp only[Seg]at h ⊢;obtain⟨rfl,h1⟩:=h;exact⟨rfl,by rw[hs.1 a (by omega) (by omega)];exact h1⟩
 | .cat l,a,b,hs,h=>by
  simp only[Seg]at h ⊢;by_cases hb:back=true
  ·rw[if_pos hb]at h ⊢;exact segB_same l a b hs h
  ·rw[if_neg hb]at h ⊢;exact segF_same l a b hs h
 | .alt l,a,b,hs,h=>by simp only[Seg]at h ⊢;exact segA_same l a b hs h
 | .many x lo hi,a,b,hs,h=>by
  simp only[Seg]at h ⊢;obtain⟨m,h1,h2⟩:=h;have hl:=fun a b=>seg_len (has:=has) (c:=c) (back:=back) x a b;have e1:=iter_len hl _ _ _ h1;split at h2
  ·rename_i hn;obtain⟨hx,e,h3,h4,rfl⟩:=h2;have e2:=hl _ _ h3;refine⟨m,iter_same (A:=a) (B:=e+1) hl (fun p q hp hq=>seg_same x p q (hs.sub hp hq)) _ _ _ (Nat.le_refl _) (by omega) h1,?_⟩;rw[if_pos hn];exact⟨by rw[hs.1 m (by omega) (by omega)];exact hx,e,seg_same x _ _ (hs.sub (by omega) (by omega)) h3,by rw[hs.1 e (by omega) (by omega)];exact h4,rfl⟩
  ·rename_i hn;have e2:=hi_len hl _ _ h2;refine⟨m,iter_same (A:=a) (B:=b) hl (fun p q hp hq=>seg_same x p q (hs.sub hp hq)) _ _ _ (Nat.le_refl _) (by omega) h1,?_⟩;rw[if_neg hn];exact hi_same (A:=m) hl (fun p q hp hq=>seg_same x p q (hs.sub (by omega) hq)) (fun k h3 h4=>hs.1 k (by omega) h4) _ _ (Nat.le_refl _) h2
theorem segF_same:∀(l:List PatP) (a b:Nat),SameIn c c' a b→SegF has c back l a b→SegF has c' back l a b
 | [],a,b,hs,h=>by simp only[SegF]at h ⊢;exact h
 | x::l,a,b,hs,h=>by
  simp only[SegF]at h ⊢;obtain⟨m,h1,h2⟩:=h;have e1:=seg_len x _ _ h1;have e2:=segF_len l _ _ h2;exact⟨m,seg_same x _ _ (hs.sub (by omega) (by omega)) h1,segF_same l _ _ (hs.sub (by omega) (by omega)) h2⟩
theorem segB_same:∀(l:List PatP) (a b:Nat),SameIn c c' a b→SegB has c back l a b→SegB has c' back l a b
 | [],a,b,hs,h=>by simp only[SegB]at h ⊢;exact h
 | x::l,a,b,hs,h=>by
  simp only[SegB]at h ⊢;obtain⟨m,h1,h2⟩:=h;have e1:=segB_len l _ _ h1;have e2:=seg_len x _ _ h2;exact⟨m,segB_same l _ _ (hs.sub (by omega) (by omega)) h1,seg_same x _ _ (hs.sub (by omega) (by omega)) h2⟩
theorem segA_same:∀(l:List PatP) (a b:Nat),SameIn c c' a b→SegA has c back l a b→SegA has c' back l a b
 | [],a,b,hs,h=>by simp only[SegA]at h
 | x::l,a,b,hs,h=>by
  simp only[SegA]at h ⊢;rcases h with ⟨rfl,h⟩|⟨hne,m,hx,h1,hj,h2⟩
  ·exact .inl ⟨rfl,seg_same x _ _ hs h⟩
  ·have e1:=seg_len x _ _ h1;have e2:=segA_len l _ _ h2;exact .inr ⟨hne,m,by rw[hs.1 a (by omega) (by omega)];exact hx,seg_same x _ _ (hs.sub (by omega) (by omega)) h1,by rw[hs.1 m (by omega) (by omega)];exact hj,segA_same l _ _ (hs.sub (by omega) (by omega)) h2⟩
end
def RightIn (c:CodeP)(a b n:Nat):Prop:=∀k,a≤k→k<b→∃x,c.ins[k]?=some x∧insRight x c.sets.length n=true
theorem right_more {x:I3}{s n n':Int}(h:insRight x s n=true)(hn:n≤n'):insRight x s n'=true:=by
 unfold insRight at h ⊢;by_cases h1:x.op=1
 ·rw[if_pos h1]at h ⊢;exact h
 rw[if_neg h1]at h ⊢;by_cases h2:x.op=2
 ·rw[if_pos h2,decide_eq_true_iff]at h ⊢;omega
 rw[if_neg h2]at h ⊢;by_cases h3:x.op=3
 ·rw[if_pos h3,decide_eq_true_iff]at h ⊢;omega
 rw[if_neg h3]at h ⊢;exact h
theorem RightIn.join {a b d n:Nat}(h1:RightIn c a b n)(h2:RightIn c b d n):RightIn c a d n:=fun k h3 h4=>by
 by_cases h:k<b
 ·exact h1 k h3 h
 ·exact h2 k (by omega) h4
theorem RightIn.more {a b n n':Nat}(h:RightIn c a b n)(hn:n≤n'):RightIn c a b n':=fun k h1 h2=>by
 obtain⟨x,h3,h4⟩:=h k h1 h2;exact⟨x,h3,right_more h4 (by omega)⟩
theorem RightIn.one {a n:Nat}{x:I3}(h:c.ins[a]?=some x)(hr:insRight x c.sets.length n=true):RightIn c a (a+1) n:=fun k h1 h2=>by
 obtain rfl:k=a:=by omega
 exact⟨x,h,hr⟩
theorem right_split {a b s n:Nat}(h1:a<n)(h2:b<n):insRight ⟨2,(a:Int),(b:Int)⟩ s n=true:=by
 unfold insRight;rw[if_neg (by simp),if_pos rfl,decide_eq_true_iff];dsimp only;omega
theorem right_jump {a s n:Nat}(h1:a<n):insRight ⟨3,(a:Int),0⟩ s n=true:=by
 unfold insRight;rw[if_neg (by simp),if_neg (by simp),if_pos rfl,decide_eq_true_iff];dsimp only;omega
theorem right_take {a s n:Nat}(h1:a<s):insRight ⟨1,(a:Int),0⟩ s n=true:=by
 unfold insRight;rw[if_pos rfl,decide_eq_true_iff];dsimp only;omega
theorem right_end {s n:Int}:insRight ⟨4,0,0⟩ s n=true:=by
 unfold insRight;rw[if_neg (by decide),if_neg (by decide),if_neg (by decide),if_pos (by decide)];rfl
theorem right_yes {s n:Int}:insRight ⟨5,0,0⟩ s n=true:=by
 unfold insRight;rw[if_neg (by decide),if_neg (by decide),if_neg (by decide),if_pos (by decide)];rfl
theorem iter_right {S:Nat→Nat→Prop}{k n:Nat}(hl:∀a b,S a b→b=a+k)(h:∀a b,b<n→S a b→RightIn c a b n):∀t a b,b<n→iterM S t a b→RightIn c a b n
 | 0,a,b,_,e=>by cases e;intro k h1 h2;omega
 | t+1,a,b,hb,⟨m,h1,h2⟩=>by
  have e2:=iter_len hl t m b h2;exact(h a m (by omega) h1).join (iter_right hl h t m b hb h2)
theorem hi_right {S:Nat→Nat→Prop}{k e n:Nat}(hl:∀a b,S a b→b=a+k)(h:∀a b,b<n→S a b→RightIn c a b n)(he:e<n):∀t m,segHi c S e t m→RightIn c m e n
 | 0,m,e=>by cases e;intro k h1 h2;omega
 | t+1,m,⟨hx,m',h1,h2⟩=>by
  have e1:=hl _ m' h1;have e2:=hi_len hl t m' h2;exact(RightIn.one hx (right_split (by omega) he)).join ((h _ m' (by omega) h1).join (hi_right hl h he t m' h2))
mutual
theorem seg_right:∀(x:PatP) (a b n:Nat),b<n→Seg has c back x a b→RightIn c a b n
 | .one k,a,b,n,hn,h=>by
  simp only[Seg]at h;obtain⟨rfl,i,s,h1,h2,h3⟩:=h;exact RightIn.one h1 (right_take (List.getElem?_eq_some_iff.1 h2).1)
 | .any,a,b,n,hn,h=>by
  simp only[Seg]at h;obtain⟨rfl,i,s,h1,h2,h3⟩:=h;exact RightIn.one h1 (right_take (List.getElem?_eq_some_iff.1 h2).1)
 | .edge,a,b,n,hn,h=>by
  simp only[Seg]at h;obtain⟨rfl,h1⟩:=h;exact RightIn.one h1 right_end
 | .cat l,a,b,n,hn,h=>by
  simp only[Seg]at h;split at h
  ·exact segB_right l a b n hn h
  ·exact segF_right l a b n hn h
 | .alt l,a,b,n,hn,h=>by simp only[Seg]at h;exact segA_right l a b n hn h
 | .many x lo hi,a,b,n,hn,h=>by
  simp only[Seg]at h;obtain⟨m,h1,h2⟩:=h;have hl:=fun a b=>seg_len (has:=has) (c:=c) (back:=back) x a b;split at h2
  ·obtain⟨hx,e,h3,h4,rfl⟩:=h2;have e2:=hl _ _ h3;exact(iter_right hl (fun p q hq=>seg_right x p q n hq) _ _ _ (by omega) h1).join ((RightIn.one hx (right_split (by omega) (by omega))).join ((seg_right x _ _ n (by omega) h3).join (RightIn.one h4 (right_jump (by omega)))))
  ·have e2:=hi_len hl _ _ h2;exact(iter_right hl (fun p q hq=>seg_right x p q n hq) _ _ _ (by omega) h1).join (hi_right hl (fun p q hq=>seg_right x p q n hq) hn _ _ h2)
theorem segF_right:∀(l:List PatP) (a b n:Nat),b<n→SegF has c back l a b→RightIn c a b n
 | [],a,b,n,hn,h=>by simp only[SegF]at h;subst h;intro k h1 h2;omega
 | x::l,a,b,n,hn,h=>by
  simp only[SegF]at h;obtain⟨m,h1,h2⟩:=h;have e2:=segF_len l _ _ h2;exact(seg_right x _ _ n (by omega) h1).join (segF_right l _ _ n hn h2)
theorem segB_right:∀(l:List PatP) (a b n:Nat),b<n→SegB has c back l a b→RightIn c a b n
 | [],a,b,n,hn,h=>by simp only[SegB]at h;subst h;intro k h1 h2;omega
 | x::l,a,b,n,hn,h=>by
  simp only[SegB]at h;obtain⟨m,h1,h2⟩:=h;have e2:=seg_len x _ _ h2;exact(segB_right l _ _ n (by omega) h1).join (seg_right x _ _ n hn h2)
theorem segA_right:∀(l:List PatP) (a b n:Nat),b<n→SegA has c back l a b→RightIn c a b n
 | [],a,b,n,hn,h=>by simp only[SegA]at h
 | x::l,a,b,n,hn,h=>by
  simp only[SegA]at h;rcases h with ⟨rfl,h⟩|⟨hne,m,hx,h1,hj,h2⟩
  ·exact seg_right x _ _ n hn h
  ·have e1:=seg_len x _ _ h1;have e2:=segA_len l _ _ h2;exact(RightIn.one hx (right_split (by omega) (by omega))).join ((seg_right x _ _ n (by omega) h1).join ((RightIn.one hj (right_jump hn)).join (segA_right l _ _ n hn h2)))
end
end
mutual
def PatNe:PatP→Prop
 | .one _=>True
 | .any=>True
 | .edge=>True
 | .cat l=>PatsNe l
 | .alt l=>l≠[]∧PatsNe l
 | .many x _ _=>PatNe x
def PatsNe:List PatP→Prop
 | []=>True
 | x::l=>PatNe x∧PatsNe l
end
theorem patsNe_snoc:∀{l:List PatP} {x:PatP},PatsNe l→PatNe x→PatsNe (l++[x])
 | [],x,_,h=>by simp only[List.nil_append,PatsNe];exact⟨h,trivial⟩
 | y::l,x,hl,h=>by
  simp only[PatsNe,List.cons_append]at hl ⊢;exact⟨hl.1,patsNe_snoc hl.2 h⟩
theorem ne_againLoop (d:Nat):∀(n c:Nat) (x:PatP),PatNe x→Iv PatNe (againLoop d n c x)
 | 0,_,_,_=>Iv.fail
 | n+1,c,x,hx=>Iv.pb iv_suffix fun r hr=>by
   cases r with
   | none=>exact Iv.pr hx
   | some q =>
    refine Iv.ite (fun _=>Iv.fail) fun _=>ne_againLoop d n (c+1) _ ?_;simp only[PatNe];exact hx
theorem ne_againW {d:Nat}{unit:Pa PatP}(h:Iv PatNe unit):Iv PatNe (againW d unit):=Iv.pb h fun x hx=>ne_againLoop d _ _ _ hx
theorem ne_rowLoop {again:Pa PatP}(h:Iv PatNe again):∀(n:Nat) (a:List PatP),PatsNe a→Iv PatsNe (rowLoop again n a)
 | 0,_,_=>Iv.fail
 | n+1,a,ha=>Iv.pif (Iv.pb h fun x hx=>ne_rowLoop h n _ (patsNe_snoc ha hx)) (Iv.pr ha)
theorem rowOf_ne {l:List PatP}(h:PatsNe l):PatNe (rowOf l):=by
 match l with
 | []=>simp only[rowOf,PatNe];exact h
 | [x]=>simp only[PatsNe]at h;exact h.1
 | x::y::l=>simp only[rowOf,PatNe];exact h
theorem altOf_ne {l:List PatP}(h:l≠[]∧PatsNe l):PatNe (altOf l):=by
 match l with
 | []=>exact absurd rfl h.1
 | [x]=>have h:=h.2;simp only[PatsNe]at h;exact h.1
 | x::y::l=>simp only[altOf,PatNe];exact h
theorem ne_rowW {again:Pa PatP}(h:Iv PatNe again):Iv PatNe (rowW again):=Iv.pb (ne_rowLoop h _ _ (by simp only[PatsNe])) fun ps hps=>Iv.pr (rowOf_ne hps)
theorem ne_altLoop {row:Pa PatP}(h:Iv PatNe row):∀(n:Nat) (a:List PatP),a≠[]∧PatsNe a→Iv (fun a=>a≠[]∧PatsNe a) (altLoop row n a)
 | 0,_,_=>Iv.fail
 | n+1,a,ha=>Iv.pif (Iv.pb Iv.pop fun _ _=>Iv.pb h fun x hx=>ne_altLoop h n _ ⟨by simp,patsNe_snoc ha.2 hx⟩) (Iv.pr ha)
theorem ne_altW {row:Pa PatP}(h:Iv PatNe row):Iv PatNe (altW row):=Iv.pb h fun x hx=>Iv.pb (ne_altLoop h _ _ ⟨by simp,by simp only[PatsNe];exact⟨hx,trivial⟩⟩) fun ps hps=>Iv.pr (altOf_ne hps)
theorem ne_patW {d:Nat}{unit:Pa PatP}(h:Iv PatNe unit):Iv PatNe (patW d unit):=Iv.ite (fun _=>Iv.fail) fun _=>ne_altW (ne_rowW (ne_againW h))
theorem ne_unit:∀d,Iv PatNe (unitP d)
 | 0=>Iv.fail
 | d+1=>Iv.pif (Iv.pb Iv.pop fun _ _=>Iv.pr (by simp only[PatNe])) (Iv.pif (Iv.pb Iv.pop fun _ _=>Iv.pr (by simp only[PatNe]))
   (Iv.pif (Iv.pb Iv.pop fun _ _=>Iv.pb (ne_patW (ne_unit d)) fun x hx=>Iv.pb (iv_must _) fun _ _=>Iv.pr hx)
    (Iv.pif (Iv.pb (iv_one (d+1)) fun k hk=>Iv.pr (by simp only[PatNe])) Iv.fail)))
theorem ne_pat (d:Nat):Iv PatNe (patP d):=ne_patW (ne_unit d)
theorem ne_rule:Iv (fun r=>PatNe r.before∧PatNe r.after) ruleP:=Iv.pb Iv.peek fun t _=>Iv.pb iv_says fun b _=>Iv.pb (ne_pat 9) fun x hx=>Iv.pb (iv_must _) fun _ _=>Iv.pb (ne_pat 9) fun y hy=>Iv.pb (iv_must _) fun _ _=>Iv.pr ⟨hx,hy⟩
theorem ne_ruleLoop:∀(n:Nat) (acc:List RuleP),(∀r∈acc,PatNe r.before∧PatNe r.after)→Iv (fun l=>∀r∈l,PatNe r.before∧PatNe r.after) (ruleLoop n acc)
 | 0,_,_=>Iv.fail
 | n+1,acc,ha=>Iv.pif (Iv.ite (fun _=>Iv.fail) fun h=>Iv.pb ne_rule fun r hr=>ne_ruleLoop n _ (fun x hx=>by
   rcases List.mem_append.1 hx with hx|hx
   ·exact ha x hx
   ·rw[List.mem_singleton.1 hx];exact hr)) (Iv.pr ha)
theorem ne_file:Iv (fun f=>∀r∈f.rules,PatNe r.before∧PatNe r.after) fileP:=Iv.pb (iv_classLoop _ _ ⟨by simp,by simp⟩) fun cs hcs=>Iv.pb (ne_ruleLoop _ _ (by simp)) fun rs hrs =>
 Iv.pb (I:=Tv) (fun l x l' hl e=>⟨trivial,(show Iv Tv elseP from Iv.pif (Iv.pb Iv.pop fun _ _=>Iv.pb iv_says fun _ _=>Iv.pb (iv_must _) fun _ _=>Iv.pr trivial) (Iv.pr trivial)) l x l' hl e |>.2⟩) fun b _=>Iv.pr hrs
section
variable (has:KindP→Int→Prop) (c:CodeP) (back:Bool)
def SegJ:List PatP→Nat→List Nat→Nat→Prop
 | [],a,js,b=>js=[]∧a=b
 | x::l,a,js,b=>∃j js',js=j::js'∧c.ins[a]?=some ⟨2,((a+1:Nat):Int),((j+1:Nat):Int)⟩∧Seg has c back x (a+1) j∧c.ins[j]?=some ⟨3,0,0⟩∧SegJ l (j+1) js' b
end
section
variable {has:KindP→Int→Prop} {c c':CodeP} {back:Bool}
theorem segJ_app:∀(l m:List PatP) (a b d:Nat) (js ks:List Nat),SegJ has c back l a js b→SegJ has c back m b ks d→SegJ has c back (l++m) a (js++ks) d
 | [],m,a,b,d,js,ks,h1,h2=>by
  simp only[SegJ]at h1;obtain⟨rfl,rfl⟩:=h1;exact h2
 | x::l,m,a,b,d,js,ks,h1,h2=>by
  simp only[SegJ]at h1;obtain⟨j,js',rfl,h3,h4,h5,h6⟩:=h1;simp only[List.cons_append,SegJ];exact⟨j,_,rfl,h3,h4,h5,segJ_app l m (j+1) b d js' ks h6 h2⟩
theorem segJ_ge:∀(l:List PatP) (a b:Nat) (js:List Nat),SegJ has c back l a js b→a≤b∧∀j∈js,a<j∧j<b
 | [],a,b,js,h=>by
  simp only[SegJ]at h;obtain⟨rfl,rfl⟩:=h;exact⟨Nat.le_refl _,fun j hj=>by cases hj⟩
 | x::l,a,b,js,h=>by
  simp only[SegJ]at h;obtain⟨j,js',rfl,h3,h4,h5,h6⟩:=h;have e:=seg_len x _ _ h4;obtain⟨e1,e2⟩:=segJ_ge l _ _ _ h6;refine⟨by omega,fun k hk=>?_⟩;rcases List.mem_cons.1 hk with rfl|hk
  ·exact⟨by omega,by omega⟩
  ·have:=e2 k hk;exact⟨by omega,by omega⟩
theorem segJ_same:∀(l:List PatP) (a b:Nat) (js:List Nat),SameIn c c' a b→SegJ has c back l a js b→SegJ has c' back l a js b
 | [],a,b,js,hs,h=>by simp only[SegJ]at h ⊢;exact h
 | x::l,a,b,js,hs,h=>by
  have hge:=segJ_ge (x::l) a b js h;simp only[SegJ]at h ⊢;obtain⟨j,js',rfl,h3,h4,h5,h6⟩:=h;have hj:=hge.2 j (List.mem_cons_self ..);exact⟨j,js',rfl,by rw[hs.1 a (by omega) (by omega)];exact h3,seg_same x _ _ (hs.sub (by omega) (by omega)) h4,by rw[hs.1 j (by omega) (by omega)];exact h5,segJ_same l _ _ _ (hs.sub (by omega) (Nat.le_refl _)) h6⟩
structure ToldC (c c':CodeP)(ks:List Nat)(g:I3→I3):Prop where
 ins:∀k,c'.ins[k]?=if k∈ks then (c.ins[k]?).map g else c.ins[k]?
 sets:c'.sets=c.sets
theorem ToldC.same {ks:List Nat}{g:I3→I3}(h:ToldC c c' ks g){a b:Nat}(hk:∀k∈ks,k<a∨b≤k):SameIn c c' a b :=
 ⟨fun k h1 h2=>by rw[h.ins k,if_neg (fun hm=>by have:=hk k hm;omega)],fun i s hs=>by rw[h.sets];exact hs⟩
theorem ToldC.nil (c:CodeP)(g:I3→I3):ToldC c c [] g:=⟨fun k=>by simp,rfl⟩
theorem ToldC.len {ks:List Nat}{g:I3→I3}(h:ToldC c c' ks g):c'.ins.length=c.ins.length:=by
 have key:∀k,c'.ins[k]?=none↔c.ins[k]?=none:=fun k=>by
  rw[h.ins k];by_cases hm:k∈ks
  ·rw[if_pos hm,Option.map_eq_none_iff]
  ·rw[if_neg hm]
 have h1:=key c.ins.length;have h2:=key c'.ins.length;simp only[List.getElem?_eq_none_iff]at h1 h2;omega
theorem ToldC.step {ks:List Nat}{g:I3→I3}(hg:∀x,g (g x)=g x)(h:ToldC c c' ks g){k:Nat}{x:I3}(hx:c'.ins[k]?=some x):ToldC c ⟨c'.sets,c'.ins.set k (g x)⟩ (ks++[k]) g :=
 ⟨fun j=>by
  show (c'.ins.set k (g x))[j]?=_
  rw[List.getElem?_set];have hlt:=(List.getElem?_eq_some_iff.1 hx).1;by_cases hj:k=j
  ·subst hj;rw[if_pos rfl,if_pos hlt,if_pos (by simp)];have h1:=h.ins k;rw[hx]at h1;by_cases hm:k∈ks
   ·rw[if_pos hm]at h1;cases hc:c.ins[k]? with
    | none=>rw[hc]at h1;cases h1
    | some y =>
     rw[hc]at h1;simp only[Option.map_some,Option.some.injEq]at h1 ⊢;rw[h1,hg]
   ·rw[if_neg hm]at h1;rw[←h1];rfl
  ·rw[if_neg hj,h.ins j];have:(j∈ks++[k])↔j∈ks:=by simp;omega
   simp only[this],h.sets⟩
theorem segJ_alt {y:PatP}:∀(l:List PatP) (a m e:Nat) (js:List Nat),ToldC c c' js (fun x=>⟨x.op,(e:Int),x.b⟩)→SegJ has c back l a js m→Seg has c back y m e→(∀k∈js,k<e)→SegA has c' back (l++[y]) a e:=by
 intro l a m e js hT;have key:∀(l:List PatP) (a:Nat) (ks:List Nat),(∀k∈ks,k∈js)→(∀k∈js,k∈ks∨k<a)→SegJ has c back l a ks m→Seg has c back y m e→SegA has c' back (l++[y]) a e:=by
  intro l;induction l with
  | nil =>
   intro a ks h1 h2 h3 h4;simp only[SegJ]at h3;obtain⟨rfl,rfl⟩:=h3;simp only[List.nil_append,SegA];refine .inl ⟨trivial,seg_same y _ _ (hT.same fun k hk=>?_) h4⟩;rcases h2 k hk with h|h
   ·cases h
   ·exact .inl h
  | cons x l ih =>
   intro a ks h1 h2 h3 h4;have hge:=segJ_ge (x::l) a m ks h3;simp only[SegJ]at h3;obtain⟨j,js',rfl,h5,h6,h7,h8⟩:=h3;have hge2:=segJ_ge l _ _ _ h8;have hlen:=seg_len x _ _ h6;simp only[List.cons_append,SegA];refine .inr ⟨by simp,j,?_,seg_same x _ _ (hT.same fun k hk=>?_) h6,?_,ih (j+1) js' (fun k hk=>h1 k (List.mem_cons_of_mem _ hk)) (fun k hk=>?_) h8 h4⟩
   ·rw[hT.ins a,if_neg (fun hm=>?_)]
    ·exact h5
    ·rcases h2 a hm with h|h
     ·have:=(hge.2 a h).1;omega
     ·omega
   ·rcases h2 k hk with h|h
    ·rcases List.mem_cons.1 h with rfl|h
     ·exact .inr (Nat.le_refl _)
     ·have:=(hge2.2 k h).1;exact .inr (by omega)
    ·exact .inl (by omega)
   ·rw[hT.ins j,if_pos (h1 j (List.mem_cons_self ..)),h7];rfl
   ·rcases h2 k hk with h|h
    ·rcases List.mem_cons.1 h with rfl|h
     ·exact .inr (by omega)
     ·exact .inl h
    ·exact .inr (by omega)
 intro h3 h4 _;exact key l a js (fun k h=>h) (fun k h=>.inl h) h3 h4
def SegS (c:CodeP)(S:Nat→Nat→Prop):Nat→Nat→List Nat→Nat→Prop
 | 0,m,ks,e=>ks=[]∧m=e
 | t+1,m,ks,e=>∃ks',ks=m::ks'∧c.ins[m]?=some ⟨2,((m+1:Nat):Int),0⟩∧∃m',S (m+1) m'∧SegS c S t m' ks' e
theorem segS_snoc {S:Nat→Nat→Prop}{e e':Nat}(hx:c.ins[e]?=some ⟨2,((e+1:Nat):Int),0⟩)(hS:S (e+1) e'):∀(t m:Nat) (ks:List Nat),SegS c S t m ks e→SegS c S (t+1) m (ks++[e]) e'
 | 0,m,ks,h=>by
  simp only[SegS]at h;obtain⟨rfl,rfl⟩:=h;simp only[List.nil_append,SegS];exact⟨[],rfl,hx,e',hS,rfl,rfl⟩
 | t+1,m,ks,h=>by
  rw[SegS]at h;obtain⟨ks',rfl,h1,m',h2,h3⟩:=h;rw[List.cons_append,SegS];exact⟨_,rfl,h1,m',h2,segS_snoc hx hS t m' ks' h3⟩
theorem segS_ge {S:Nat→Nat→Prop}{k e:Nat}(hl:∀a b,S a b→b=a+k):∀(t m:Nat) (ks:List Nat),SegS c S t m ks e→e=m+t*(k+1)∧∀j∈ks,m≤j∧j<e
 | 0,m,ks,h=>by
  simp only[SegS]at h;obtain⟨rfl,rfl⟩:=h;exact⟨by simp,fun j hj=>by cases hj⟩
 | t+1,m,ks,h=>by
  rw[SegS]at h;obtain⟨ks',rfl,h1,m',h2,h3⟩:=h;have e1:=hl _ _ h2;obtain⟨e2,e3⟩:=segS_ge hl t m' ks' h3;refine⟨by rw[Nat.succ_mul];omega,fun j hj=>?_⟩;rcases List.mem_cons.1 hj with rfl|hj
  ·exact⟨Nat.le_refl _,by omega⟩
  ·have:=e3 j hj;exact⟨by omega,this.2⟩
theorem segS_same {S S':Nat→Nat→Prop}{k e A:Nat}(hl:∀a b,S a b→b=a+k)(h:∀a b,A≤a→b≤e→S a b→S' a b)(hs:SameIn c c' A e):∀(t m:Nat) (ks:List Nat),A≤m→SegS c S t m ks e→SegS c' S' t m ks e
 | 0,m,ks,_,hh=>hh
 | t+1,m,ks,hA,hh=>by
  rw[SegS]at hh ⊢;obtain⟨ks',rfl,h1,m',h2,h3⟩:=hh;have e1:=hl _ _ h2;have e2:=(segS_ge hl t m' ks' h3).1;have e4:0≤t*(k+1):=Nat.zero_le _;exact⟨ks',rfl,by rw[hs.1 m hA (by omega)];exact h1,m',h _ _ (by omega) (by omega) h2,segS_same hl h hs t m' ks' (by omega) h3⟩
theorem segS_hi {S S':Nat→Nat→Prop}{k e:Nat}{js:List Nat}(hl:∀a b,S a b→b=a+k)(hT:ToldC c c' js (fun x=>⟨x.op,x.a,(e:Int)⟩))(h:∀a b,S a b→(∀j∈js,j<a∨b≤j)→S' a b):∀(t m:Nat) (ks:List Nat),(∀j∈ks,j∈js)→(∀j∈js,j∈ks∨j<m)→SegS c S t m ks e→segHi c' S' e t m
 | 0,m,ks,_,_,hh=>by
  simp only[SegS]at hh;exact hh.2
 | t+1,m,ks,h1,h2,hh=>by
  rw[SegS]at hh;obtain⟨ks',rfl,h3,m',h4,h5⟩:=hh;have e1:=hl _ _ h4;have hge:=(segS_ge hl t m' ks' h5).2;refine⟨?_,m',h _ _ h4 (fun j hj=>?_),segS_hi hl hT h t m' ks' (fun j hj=>h1 j (List.mem_cons_of_mem _ hj)) (fun j hj=>?_) h5⟩
  ·rw[hT.ins m,if_pos (h1 m (List.mem_cons_self ..)),h3];rfl
  ·rcases h2 j hj with h|h
   ·rcases List.mem_cons.1 h with rfl|h
    ·exact .inl (by omega)
    ·have:=(hge j h).1;exact .inr (by omega)
   ·exact .inl (by omega)
  ·rcases h2 j hj with h|h
   ·rcases List.mem_cons.1 h with rfl|h
    ·exact .inr (by omega)
    ·exact .inl h
   ·exact .inr (by omega)
end
end Cae
namespace Go.Proofs.YtledlfbbebodgaaGreatDoor
open Go.Vc Go.Proofs Go.RowKit Cae
attribute [local irreducible] wpL callK valK unitK runK Fun Sl Vc.Own vc vcOps opK pureK
theorem parse_ne {s:List UInt8}{f:FileP}(hs:s.length≤1000000)(h:parseR s=.ok f):∀r∈f.rules,PatNe r.before∧PatNe r.after:=by
 unfold parseR at h;split at h
 ·cases h
 ·rename_i l hl;have htl:=tl_of hs hl;split at h
  ·cases h
  ·rename_i f' l' hf;split at h
   ·cases h;exact(ne_file _ _ _ htl.txt hf).1
   ·cases h
end Go.Proofs.YtledlfbbebodgaaGreatDoor
end
section
namespace Cae
def bytesT (l:List Tok):Nat:=(l.map fun t=>t.text.length).sum
structure Tw (bar:List (List UInt8))(l:List Tok):Prop where
 pos:∀t∈l,t.kind≠5→1≤t.text.length
 bar:∀t∈l,t.text ∉ bar
theorem Tw.tail {bar:List (List UInt8)}{t:Tok}{l:List Tok}(h:Tw bar (t::l)):Tw bar l:=⟨fun x hx=>h.pos x (List.mem_cons_of_mem _ hx),fun x hx=>h.bar x (List.mem_cons_of_mem _ hx)⟩
def Cw (bar:List (List UInt8)){α:Type}(Q:α→Nat→Prop)(p:Pa α):Prop:=∀l x l',Tw bar l→p l=.ok (x,l')→Tw bar l'∧∃d,bytesT l=d+bytesT l'∧Q x d
section
variable {bar:List (List UInt8)} {α β:Type} {Q:α→Nat→Prop} {R:β→Nat→Prop} {p:Pa α} {q:α→Pa β}
theorem Cw.pr {x:α}(h:Q x 0):Cw bar Q (pr x):=fun l y l' hl e=>by cases e;exact⟨hl,0,by omega,h⟩
theorem Cw.fail {e:Nat}:Cw bar Q (pfail e):=fun l y l' _ h=>by cases h
theorem Cw.weak {Q':α→Nat→Prop}(h:Cw bar Q p)(hm:∀x d,Q x d→Q' x d):Cw bar Q' p:=fun l x l' hl e=>by
 obtain⟨h1,d,h2,h3⟩:=h l x l' hl e;exact⟨h1,d,h2,hm x d h3⟩
theorem Cw.pb (h:Cw bar Q p)(k:∀x d,Q x d→Cw bar (fun y e=>R y (d+e)) (q x)):Cw bar R (pb p q):=fun l y l' hl e=>by
 obtain⟨x,l1,e1,e2⟩:=pb_ok e;obtain⟨h1,d,h2,h3⟩:=h l x l1 hl e1;obtain⟨h4,d',h5,h6⟩:=k x d h3 l1 y l' h1 e2;exact⟨h4,d+d',by omega,h6⟩
theorem Cw.pif {cc:List Tok→Bool}{p1 p2:Pa α}(h1:Cw bar Q p1)(h2:Cw bar Q p2):Cw bar Q (pif cc p1 p2):=fun l x l' hl e=>by
 unfold Cae.pif at e;split at e
 ·exact h1 l x l' hl e
 ·exact h2 l x l' hl e
theorem Cw.pifB {m:List UInt8}{p1 p2:Pa α}(hm:m∈bar)(h2:Cw bar Q p2):Cw bar Q (Cae.pif (seeP m) p1 p2):=fun l x l' hl e=>by
 unfold Cae.pif at e;split at e
 ·rename_i hs;exfalso;unfold seeP at hs;rw[Bool.and_eq_true]at hs;cases l with
  | nil=>simp[hd]at hs
  | cons t r =>
   have h1:t.text=m:=by simpa[hd] using hs.2
   exact hl.bar t (List.mem_cons_self ..) (h1▸hm)
 ·exact h2 l x l' hl e
theorem Cw.ite {c:Prop}[Decidable c]{p1 p2:Pa α}(h1:c→Cw bar Q p1)(h2:¬c→Cw bar Q p2):Cw bar Q (if c then p1 else p2):=by
 by_cases h:c
 ·rw[if_pos h];exact h1 h
 ·rw[if_neg h];exact h2 h
end
section
variable {bar:List (List UInt8)}
def Dv (n:Nat){α:Type}(_:α)(d:Nat):Prop:=n≤d
theorem Cw.peek:Cw bar (Dv 0) peek:=fun l x l' hl e=>by cases e;exact⟨hl,0,by omega,Nat.le_refl _⟩
theorem Cw.pop:Cw bar (Dv 1) popP:=fun l x l' hl e=>by
 obtain⟨t,rfl,hk⟩:=pop_ok e;refine⟨hl.tail,t.text.length,by simp[bytesT],hl.pos t (List.mem_cons_self ..) hk⟩
theorem cw_must (s:List UInt8):Cw bar (Dv 1) (mustP s):=Cw.pif Cw.pop Cw.fail
theorem cw_seq {α β:Type}{p:Pa α}{q:α→Pa β}{n m:Nat}(h:Cw bar (Dv n) p)(k:∀x,Cw bar (Dv m) (q x)):Cw bar (Dv (n+m)) (pb p q) :=
 Cw.pb h fun x d hd=>(k x).weak fun y e he=>by show n+m≤d+e;exact Nat.add_le_add hd he
theorem cw_less {α:Type}{p:Pa α}{n m:Nat}(h:Cw bar (Dv n) p)(hm:m≤n):Cw bar (Dv m) p:=h.weak fun _ _ hd=>Nat.le_trans hm hd
theorem cw_name:Cw bar (Dv 1) nameP:=Cw.pif (Cw.pif Cw.fail (cw_seq (n:=0) (m:=1) Cw.peek fun t=>cw_seq (n:=1) (m:=0) Cw.pop fun _=>Cw.pr (Nat.le_refl _))) Cw.fail
theorem cw_bin:Cw bar (Dv 0) binP :=
 Cw.pif (cw_less (cw_seq (n:=1) (m:=0) Cw.pop fun _=>Cw.pr (Nat.le_refl _)) (by omega)) (Cw.pif (cw_less (cw_seq (n:=1) (m:=0) Cw.pop fun _=>Cw.pr (Nat.le_refl _)) (by omega)) (Cw.pif (cw_less (cw_seq (n:=1) (m:=0) Cw.pop fun _=>Cw.pr (Nat.le_refl _)) (by omega)) (Cw.pr (Nat.le_refl _))))
theorem cw_kindLoop {one:Pa KindP}(h:Cw bar (Dv 1) one)(pos:Nat):∀(n:Nat) (k:KindP),Cw bar (Dv 0) (kindLoop one pos n k)
 | 0,_=>Cw.fail
 | n+1,k=>cw_less (cw_seq (n:=0) (m:=0) cw_bin fun c=>Cw.ite (fun _=>Cw.pr (Nat.le_refl _)) fun _=>cw_less (cw_seq (n:=1) (m:=0) h fun r=>cw_kindLoop h pos n _) (by omega)) (by omega)
theorem cw_kindW {one:Pa KindP}(h:Cw bar (Dv 1) one):Cw bar (Dv 1) (kindW one):=cw_seq (n:=0) (m:=1) Cw.peek fun t=>cw_seq (n:=1) (m:=0) h fun k=>cw_kindLoop h _ _ _
theorem cw_lit:Cw bar (Dv 1) litP:=cw_seq (n:=0) (m:=1) Cw.peek fun t=>by
 split
 ·exact Cw.fail
 ·exact cw_seq (n:=1) (m:=0) Cw.pop fun _=>Cw.pr (Nat.le_refl _)
theorem cw_one:∀d,Cw bar (Dv 1) (oneP d)
 | 0=>Cw.fail
 | d+1=>Cw.pif cw_lit (Cw.pif (cw_seq (n:=0) (m:=1) Cw.peek fun t=>cw_seq (n:=1) (m:=0) Cw.pop fun _=>cw_less (cw_seq (n:=1) (m:=0) (cw_one d) fun k=>Cw.pr (Nat.le_refl _)) (by omega))
  (Cw.pif (cw_seq (n:=1) (m:=0) Cw.pop fun _=>cw_less (cw_seq (n:=1) (m:=1) (cw_kindW (cw_one d)) fun k=>cw_seq (n:=1) (m:=0) (cw_must _) fun _=>Cw.pr (Nat.le_refl _)) (by omega))
   (cw_seq (n:=0) (m:=1) Cw.peek fun t=>cw_seq (n:=1) (m:=0) cw_name fun n=>Cw.pr (Nat.le_refl _))))
theorem cw_times:Cw bar (fun n d=>n≤12∧1≤d) timesP:=Cw.pif (Cw.pb (Q:=Dv 0) Cw.peek fun t d _=>Cw.ite (fun _=>Cw.fail) fun h=>Cw.pb (Q:=Dv 1) Cw.pop fun _ e he=>Cw.pr ⟨by omega,by have:1≤e:=he;omega⟩) Cw.fail
def RgT (q:Int×Int):Prop:=0≤q.1∧q.1≤12∧q.2≤12∧(q.2<0∨q.1≤q.2)
theorem cw_braces:Cw bar (fun q d=>RgT q) bracesP:=Cw.pb cw_times fun lo d hlo=>Cw.pif (Cw.pb (Q:=Dv 1) Cw.pop fun _ _ _=>Cw.pif
  (Cw.pb cw_times fun hi _ hhi=>Cw.ite (fun _=>Cw.fail) fun h=>Cw.pb (cw_must _) fun _ _ _=>Cw.pr (by unfold RgT;dsimp only;omega))
  (Cw.pb (cw_must _) fun _ _ _=>Cw.pr (by unfold RgT;dsimp only;omega)))
 (Cw.pb (cw_must _) fun _ _ _=>Cw.pr (by unfold RgT;dsimp only;omega))
structure Meas (bar:List (List UInt8))(M:PatP→Nat→Prop)(ML AL:List PatP→Nat→Prop):Prop where
 weak:∀x d e,M x d→d≤e→M x e
 one:∀k,M (.one k) 1
 any:M .any 1
 edge:M .edge 1
 nil:ML [] 0
 snoc:∀l x d e,ML l d→M x e→ML (l++[x]) (d+e)
 cat:∀l d,ML l d→M (rowOf l) d
 first:∀x d,M x d→AL [x] d
 more:∀l x d e,AL l d→M x e→AL (l++[x]) (d+1+e)
 alt:∀l d,AL l d→M (altOf l) d
 lweak:∀l d e,AL l d→d≤e→AL l e
 rweak:∀l d e,ML l d→d≤e→ML l e
 suf:Cw bar (fun o d=>∀q,o=some q→1≤d∧∀x e,M x e→M (.many x q.1 q.2) (e+d)) suffixP
variable {M:PatP→Nat→Prop} {ML AL:List PatP→Nat→Prop}
theorem ms_againLoop (h:Meas bar M ML AL)(d:Nat):∀(n c:Nat) (x:PatP) (a:Nat),M x a→Cw bar (fun y e=>M y (a+e)) (againLoop d n c x)
 | 0,_,_,_,_=>Cw.fail
 | n+1,c,x,a,hx=>Cw.pb h.suf fun r b hr=>by
   cases r with
   | none=>exact Cw.pr (h.weak _ _ _ hx (by omega))
   | some q =>
    have hq:=hr q rfl;exact Cw.ite (fun _=>Cw.fail) fun _=>(ms_againLoop h d n (c+1) _ (a+b) (hq.2 x a hx)).weak fun y e he=>by rw[←Nat.add_assoc];exact he
theorem ms_againW (h:Meas bar M ML AL){d:Nat}{unit:Pa PatP}(hu:Cw bar M unit):Cw bar M (againW d unit):=Cw.pb hu fun x a hx=>ms_againLoop h d _ _ x a hx
theorem ms_rowLoop (h:Meas bar M ML AL){again:Pa PatP}(ha:Cw bar M again):∀(n:Nat) (l:List PatP) (a:Nat),ML l a→Cw bar (fun l e=>ML l (a+e)) (rowLoop again n l)
 | 0,_,_,_=>Cw.fail
 | n+1,l,a,hl=>Cw.pif (Cw.pb ha fun x b hx=>(ms_rowLoop h ha n _ (a+b) (h.snoc _ _ _ _ hl hx)).weak fun y e he=>by rw[←Nat.add_assoc];exact he) (Cw.pr (h.rweak _ _ _ hl (by omega)))
theorem ms_rowW (h:Meas bar M ML AL){again:Pa PatP}(ha:Cw bar M again):Cw bar M (rowW again):=Cw.pb ((ms_rowLoop h ha _ [] 0 h.nil)) fun ps b hps=>Cw.pr (h.cat _ _ (h.rweak _ _ _ hps (by omega)))
theorem ms_altLoop (h:Meas bar M ML AL){row:Pa PatP}(hr:Cw bar M row):∀(n:Nat) (l:List PatP) (a:Nat),AL l a→Cw bar (fun l e=>AL l (a+e)) (altLoop row n l)
 | 0,_,_,_=>Cw.fail
 | n+1,l,a,hl=>Cw.pif (Cw.pb (Q:=Dv 1) Cw.pop fun _ b hb=>Cw.pb hr fun x c hx=>(ms_altLoop h hr n _ (a+1+c) (h.more _ _ _ _ hl hx)).weak fun y e he=>h.lweak _ _ _ he (by have:1≤b:=hb;omega)) (Cw.pr (h.lweak _ _ _ hl (by omega)))
theorem ms_altW (h:Meas bar M ML AL){row:Pa PatP}(hr:Cw bar M row):Cw bar M (altW row):=Cw.pb hr fun x a hx=>Cw.pb (ms_altLoop h hr _ [x] a (h.first _ _ hx)) fun ps b hps=>Cw.pr (h.alt _ _ (h.lweak _ _ _ hps (by omega)))
theorem ms_patW (h:Meas bar M ML AL){d:Nat}{unit:Pa PatP}(hu:Cw bar M unit):Cw bar M (patW d unit):=Cw.ite (fun _=>Cw.fail) fun _=>ms_altW h (ms_rowW h (ms_againW h hu))
theorem ms_unit (h:Meas bar M ML AL):∀d,Cw bar M (unitP d)
 | 0=>Cw.fail
 | d+1=>Cw.pif (Cw.pb (Q:=Dv 1) Cw.pop fun _ b hb=>Cw.pr (h.weak _ _ _ h.any (by have:1≤b:=hb;omega))) (Cw.pif (Cw.pb (Q:=Dv 1) Cw.pop fun _ b hb=>Cw.pr (h.weak _ _ _ h.edge (by have:1≤b:=hb;omega)))
   (Cw.pif (Cw.pb (Q:=Dv 1) Cw.pop fun _ b hb=>Cw.pb (ms_patW h (ms_unit h d)) fun x c hx=>Cw.pb (cw_must _) fun _ _ _=>Cw.pr (h.weak _ _ _ hx (by omega)))
    (Cw.pif (Cw.pb (cw_one (d+1)) fun k b hb=>Cw.pr (h.weak _ _ _ (h.one k) (by have:1≤b:=hb;omega))) Cw.fail)))
theorem ms_pat (h:Meas bar M ML AL)(d:Nat):Cw bar M (patP d):=ms_patW h (ms_unit h d)
end
section
variable {bar:List (List UInt8)}
theorem cw_seePop {α:Type}{m:List UInt8}{k:Nat}{v:α}{p2:Pa α}(hk:k≤m.length)(h2:Cw bar (Dv k) p2):Cw bar (Dv k) (pif (seeP m) (pb popP fun _=>pr v) p2):=fun l x l' hl e=>by
 unfold Cae.pif at e;split at e
 ·rename_i hs;obtain⟨y,l1,e1,e2⟩:=pb_ok e;obtain⟨t,rfl,hk5⟩:=pop_ok e1;cases e2;unfold seeP at hs;rw[Bool.and_eq_true]at hs;have ht:t.text=m:=by simpa[hd] using hs.2
  exact⟨hl.tail,t.text.length,by simp[bytesT],by show k≤t.text.length;rw[ht];exact hk⟩
 ·exact h2 l x l' hl e
theorem cw_says:Cw bar (Dv 4) saysP:=cw_seePop (by decide) (fun l x l' hl e=>by
 obtain⟨y,l1,e1,e2⟩:=pb_ok e;cases e2;unfold mustP Cae.pif at e1;split at e1
 ·rename_i hs;obtain⟨t,rfl,hk5⟩:=pop_ok e1;unfold seeP at hs;rw[Bool.and_eq_true]at hs;have ht:t.text=[107,101,101,112]:=by simpa[hd] using hs.2
  exact⟨hl.tail,t.text.length,by simp[bytesT],by show 4≤t.text.length;rw[ht];decide⟩
 ·cases e1)
def RM (M:PatP→Nat→Prop)(r:RuleP)(n:Nat):Prop:=∃a b,M r.before a∧M r.after b∧a+b+6≤n
variable {M:PatP→Nat→Prop} {ML AL:List PatP→Nat→Prop}
theorem ms_rule (h:Meas bar M ML AL):Cw bar (RM M) ruleP:=Cw.pb (Q:=Dv 0) Cw.peek fun t _ _=>Cw.pb cw_says fun b d hd=>Cw.pb (ms_pat h 9) fun x a hx=>Cw.pb (cw_must _) fun _ c hc=>Cw.pb (ms_pat h 9) fun y b hy=>Cw.pb (cw_must _) fun _ e he=>Cw.pr ⟨a,b,hx,hy,by have h1:4≤d:=hd;have h2:1≤c:=hc;have h3:1≤e:=he;omega⟩
theorem ms_ruleLoop (h:Meas bar M ML AL):∀(n:Nat) (acc:List RuleP) (a:Nat),(∀r∈acc,RM M r a)→Cw bar (fun l e=>∀r∈l,RM M r (a+e)) (ruleLoop n acc)
 | 0,_,_,_=>Cw.fail
 | n+1,acc,a,ha=>Cw.pif (Cw.ite (fun _=>Cw.fail) fun _=>Cw.pb (ms_rule h) fun r b hr=>(ms_ruleLoop h n _ (a+b) (fun x hx=>by
   rcases List.mem_append.1 hx with hx|hx
   ·obtain⟨p,q,h1,h2,h3⟩:=ha x hx;exact⟨p,q,h1,h2,by omega⟩
   ·rw[List.mem_singleton.1 hx];obtain⟨p,q,h1,h2,h3⟩:=hr;exact⟨p,q,h1,h2,by omega⟩)).weak fun l e he r hr=>by rw[←Nat.add_assoc];exact he r hr) (Cw.pr (fun r hr=>by obtain⟨p,q,h1,h2,h3⟩:=ha r hr;exact⟨p,q,h1,h2,by omega⟩))
theorem cw_class:Cw bar (Dv 0) classP:=cw_less (cw_seq (n:=0) (m:=0) Cw.peek fun t=>cw_less (cw_seq (n:=1) (m:=0) (cw_must _) fun _=>cw_less (cw_seq (n:=1) (m:=0) cw_name fun n=>cw_less (cw_seq (n:=1) (m:=0) (cw_must _) fun _=>cw_less (cw_seq (n:=1) (m:=0) (cw_kindW (cw_one 9)) fun k=>cw_less (cw_seq (n:=1) (m:=0) (cw_must _) fun _=>Cw.pr (Nat.le_refl _)) (by omega)) (by omega)) (by omega)) (by omega)) (by omega)) (by omega)
theorem cw_classLoop:∀(n:Nat) (acc:List ClassP),Cw bar (Dv 0) (classLoop n acc)
 | 0,_=>Cw.fail
 | n+1,acc=>Cw.pif (Cw.ite (fun _=>Cw.fail) fun _=>cw_less (cw_seq (n:=0) (m:=0) cw_class fun c=>cw_classLoop n _) (by omega)) (Cw.pr (Nat.le_refl _))
theorem cw_else:Cw bar (Dv 0) elseP:=Cw.pif (cw_less (cw_seq (n:=1) (m:=0) Cw.pop fun _=>cw_less (cw_seq (n:=4) (m:=0) cw_says fun _=>cw_less (cw_seq (n:=1) (m:=0) (cw_must _) fun _=>Cw.pr (Nat.le_refl _)) (by omega)) (by omega)) (by omega)) (Cw.pr (Nat.le_refl _))
theorem ms_file (h:Meas bar M ML AL):Cw bar (fun f d=>∀r∈f.rules,RM M r d) fileP:=Cw.pb (cw_classLoop _ _) fun cs a _=>Cw.pb (ms_ruleLoop h _ [] 0 (by simp)) fun rs b hrs=>Cw.pb cw_else fun e c _=>Cw.pr (fun r hr=>by obtain⟨p,q,h1,h2,h3⟩:=hrs r hr;exact⟨p,q,h1,h2,by omega⟩)
theorem sumT_bytes (l:List Tok):sumT l=bytesT l:=by
 induction l with
 | nil=>rfl
 | cons t l ih=>simp[sumT,bytesT]at ih ⊢
theorem parse_ms (h:Meas bar M ML AL){s:List UInt8}{f:FileP}(hb:∀m∈bar,m≠[])(hs:∀m∈bar,¬m <:+: s)(hp:parseR s=.ok f):∀r∈f.rules,RM M r s.length:=by
 unfold parseR at hp;split at hp
 ·cases hp
 ·rename_i l hl;obtain⟨m,hm,e,hn⟩:=tokLoop_tk _ _ _ _ _ (by simp) hl;rw[List.nil_append]at e;have hsum:=hm.sum;have hT:Tw bar l:=by
   rw[e];refine⟨fun t ht hk=>?_,fun t ht hbar=>?_⟩
   ·rcases List.mem_append.1 ht with ht|ht
    ·exact hsum.2 t ht
    ·rw[List.mem_singleton.1 ht]at hk;exact absurd rfl hk
   ·rcases List.mem_append.1 ht with ht|ht
    ·exact hs _ hbar (hm.inside t ht)
    ·rw[List.mem_singleton.1 ht]at hbar;exact hb _ hbar rfl
  split at hp
  ·cases hp
  ·rename_i f' l' hf;split at hp
   ·cases hp;obtain⟨_,d,h2,h3⟩:=ms_file h l _ _ hT hf;have hlen:bytesT l≤s.length:=by
     rw[e];have h1:=hsum.1;rw[sumT_bytes]at h1;simp[bytesT]at h1 ⊢;exact h1
    intro r hr;obtain⟨p,q,h4,h5,h6⟩:=h3 r hr;exact⟨p,q,h4,h5,by omega⟩
   ·cases hp
end
theorem clenA_snoc:∀(l:List PatP) (x:PatP),l≠[]→clenA (l++[x])=clenA l+2+clen x
 | [],x,h=>absurd rfl h
 | [y],x,_=>by simp[clenA]
 | y::z::l,x,_=>by
  have:=clenA_snoc (z::l) x (by simp);have e1:clenA (y::(z::l++[x]))=clen y+2+clenA (z::l++[x]):=by rw[clenA,if_neg (by simp)]
  have e2:clenA (y::z::l)=clen y+2+clenA (z::l):=by rw[clenA,if_neg (by simp)]
  rw[List.cons_append,e1,e2,this];omega
theorem clenL_snoc (l:List PatP)(x:PatP):clenL (l++[x])=clenL l+clen x:=by
 induction l with
 | nil=>simp[clenL]
 | cons y l ih=>rw[List.cons_append,clenL,clenL,ih];omega
theorem clen_rowOf (l:List PatP):clen (rowOf l)=clenL l:=by
 match l with
 | []=>rfl
 | [x]=>simp[rowOf,clenL]
 | x::y::l=>rfl
theorem clen_altOf (l:List PatP):clen (altOf l)=clenA l:=by
 match l with
 | []=>rfl
 | [x]=>simp[altOf,clenA]
 | x::y::l=>rfl
theorem meas_plain:Meas [[43],[123]] (fun x d=>clen x≤2*d) (fun l d=>clenL l≤2*d) (fun l d=>l≠[]∧clenA l≤2*d) where
 weak x d e h hd:=by omega
 one k:=by simp[clen]
 any:=by simp[clen]
 edge:=by simp[clen]
 nil:=by simp[clenL]
 snoc l x d e h1 h2:=by rw[clenL_snoc];omega
 cat l d h:=by rw[clen_rowOf];exact h
 first x d h:=⟨by simp,by simpa[clenA] using h⟩
 more l x d e h1 h2:=⟨by simp,by rw[clenA_snoc l x h1.1];omega⟩;alt l d h:=by rw[clen_altOf];exact h.2
 lweak l d e h hd:=⟨h.1,by omega⟩;rweak l d e h hd:=by omega
 suf:=Cw.pif (Cw.pb (Q:=Dv 1) Cw.pop fun _ b hb=>Cw.pr (fun q hq=>by cases hq;have h1:1≤b:=hb;exact⟨by omega,fun x e he=>by simp[clen];omega⟩)) (Cw.pifB (by simp) (Cw.pif (Cw.pb (Q:=Dv 1) Cw.pop fun _ b hb=>Cw.pr (fun q hq=>by cases hq;have h1:1≤b:=hb;exact⟨by omega,fun x e he=>by simp[clen];omega⟩)) (Cw.pifB (by simp) (Cw.pr (fun q hq=>by cases hq)))))
theorem clen_many {x:PatP}{q:Int×Int}(hq:RgT q):clen (.many x q.1 q.2)+1≤16*(clen x+1):=by
 obtain⟨h1,h2,h3,h4⟩:=hq;obtain⟨lo,hlo⟩:∃lo:Nat,q.1=lo:=⟨q.1.toNat,by omega⟩;simp only[clen,hlo,Int.toNat_natCast];have hl:lo≤12:=by omega
 have h5:lo*clen x≤12*clen x:=Nat.mul_le_mul_right _ hl;split
 ·omega
 ·obtain⟨k,hk⟩:∃k:Nat,q.2=lo+k:=⟨(q.2-lo).toNat,by omega⟩;have e:(q.2-(lo:Int)).toNat=k:=by omega
  rw[e];have h6:lo*clen x+k*(clen x+1)≤(lo+k)*(clen x+1):=by rw[Nat.add_mul,Nat.mul_add lo];omega
  have h7:(lo+k)*(clen x+1)≤12*(clen x+1):=Nat.mul_le_mul_right _ (by omega);omega
theorem pow_two {a b d e:Nat}(h1:a+1≤16 ^ d)(h2:b+1≤16 ^ e):(a+1)*(b+1)≤16 ^ (d+e):=by rw[Nat.pow_add];exact Nat.mul_le_mul h1 h2
theorem meas_any:Meas [] (fun x d=>clen x+1≤16 ^ d) (fun l d=>clenL l+1≤16 ^ d) (fun l d=>l≠[]∧clenA l+1≤16 ^ d) where
 weak x d e h hd:=Nat.le_trans h (Nat.pow_le_pow_right (by omega) hd);one k:=by simp[clen]
 any:=by simp[clen]
 edge:=by simp[clen]
 nil:=by simp[clenL]
 snoc l x d e h1 h2:=by
  rw[clenL_snoc];have:=pow_two h1 h2;have e1:(clenL l+1)*(clen x+1)=clenL l*clen x+clenL l+clen x+1:=by rw[Nat.add_mul,Nat.mul_add];omega
  omega
 cat l d h:=by rw[clen_rowOf];exact h
 first x d h:=⟨by simp,by simpa[clenA] using h⟩
 more l x d e h1 h2:=⟨by simp,by
  rw[clenA_snoc l x h1.1];have:=pow_two h1.2 h2;have e1:(clenA l+1)*(clen x+1)=clenA l*clen x+clenA l+clen x+1:=by rw[Nat.add_mul,Nat.mul_add];omega
  have e2:16 ^ (d+1+e)=16*16 ^ (d+e):=by rw[show d+1+e=(d+e)+1 by omega,Nat.pow_succ];omega
  omega⟩
 alt l d h:=by rw[clen_altOf];exact h.2
 lweak l d e h hd:=⟨h.1,Nat.le_trans h.2 (Nat.pow_le_pow_right (by omega) hd)⟩;rweak l d e h hd:=Nat.le_trans h (Nat.pow_le_pow_right (by omega) hd);suf:=by
  have key:∀(q:Int×Int) (d:Nat),RgT q→1≤d→1≤d∧∀(x:PatP) (e:Nat),clen x+1≤16 ^ e→clen (.many x q.1 q.2)+1≤16 ^ (e+d):=fun q d hq hd=>⟨hd,fun x e he=>by
   have h1:=clen_many (x:=x) hq;have h2:16 ^ (e+1)≤16 ^ (e+d):=Nat.pow_le_pow_right (by omega) (by omega);have h3:16 ^ (e+1)=16*16 ^ e:=by rw[Nat.pow_succ];omega
   omega⟩
  exact Cw.pif (Cw.pb (Q:=Dv 1) Cw.pop fun _ b hb=>Cw.pr (fun q hq=>by cases hq;exact key _ _ (by unfold RgT;decide) hb)) (Cw.pif (Cw.pb (Q:=Dv 1) Cw.pop fun _ b hb=>Cw.pr (fun q hq=>by cases hq;exact key _ _ (by unfold RgT;decide) hb)) (Cw.pif (Cw.pb (Q:=Dv 1) Cw.pop fun _ b hb=>Cw.pr (fun q hq=>by cases hq;exact key _ _ (by unfold RgT;decide) hb)) (Cw.pif (Cw.pb (Q:=Dv 1) Cw.pop fun _ b hb=>Cw.pb cw_braces fun r c hr=>Cw.pr (fun q hq=>by cases hq;have h1:1≤b:=hb;exact key _ _ hr (by omega))) (Cw.pr (fun q hq=>by cases hq)))))
theorem clen_plain {s:List UInt8}{f:FileP}(hl:s.length≤900)(h1:(43:UInt8) ∉ s)(h2:(123:UInt8) ∉ s)(hp:parseR s=.ok f):∀r∈f.rules,clen r.before+1≤2000∧clen r.after+1≤2000:=fun r hr=>by
 obtain⟨a,b,h3,h4,h5⟩:=parse_ms meas_plain (by simp) (fun m hm hi=>by
  have hmem:∀c∈m,c∈s:=fun c hc=>hi.subset hc;simp only[List.mem_cons,List.not_mem_nil,or_false]at hm;rcases hm with rfl|rfl
  ·exact h1 (hmem 43 (by simp))
  ·exact h2 (hmem 123 (by simp))) hp r hr
 exact⟨by omega,by omega⟩
theorem clen_short {s:List UInt8}{f:FileP}(hl:s.length≤8)(hp:parseR s=.ok f):∀r∈f.rules,clen r.before+1≤2000∧clen r.after+1≤2000:=fun r hr=>by
 obtain⟨a,b,h3,h4,h5⟩:=parse_ms meas_any (by simp) (by simp) hp r hr;have h6:16 ^ a≤16 ^ 2:=Nat.pow_le_pow_right (by omega) (by omega);have h7:16 ^ b≤16 ^ 2:=Nat.pow_le_pow_right (by omega) (by omega);exact⟨by omega,by omega⟩
end Cae
end
section
namespace Go.Proofs.YtledlfbbebodgaaGreatDoor
open Go.Vc Go.Proofs Go.RowKit Cae
attribute [local irreducible] wpL callK valK unitK runK Fun Sl Vc.Own vc vcOps opK pureK
theorem equalR_c (l l':List Rg)(hl:l.length<10000000)(X X':Nat→Prop)(v v':Value)(w:World)(hv:Sl X 2 (En encR) w v l)(hv':Sl X' 2 (En encR) w v' l') :
  Fun Tryz.prog 120 [v,v'] w fun r w'=>r=.bool (decide (l=l'))∧Below w.heap.size w w':=by
 obtain⟨a,c,rfl,hc⟩:=hv.shape;obtain⟨a',c',rfl,hc'⟩:=hv'.shape;refine fun_of_vc Tryz.func120 rfl (by kernel_rfl) [4] rfl ?_;push_cast -dsimp(maxSteps:=4000000) [Tryz.ntmps120];refine⟨fun hne=>⟨?_,Below.refl _ _⟩,fun he=>?_⟩
 ·rw[decide_eq_false];intro h;subst h;omega
 have he':l.length=l'.length:=by omega
 refine wpL_loop [4,5,13,14,15,16,17,18,19,20,21,22,23,24,25] (fun z wx=>∃(i:Nat),z 13=.int .i64 i∧i≤l.length∧l.take i=l'.take i∧Below w.heap.size w wx) (fun z _=>l.length-(intOf (z 13)).toNat) ?_ ?_
 ·exact⟨0,rfl,Nat.zero_le _,rfl,Below.refl _ _⟩
 ·intro z wx hI;obtain⟨i,h13,hi,hok,hb⟩:=hI;push_cast -dsimp[h13];refine⟨fun hlt=>?_,fun hge=>?_⟩
  ·obtain⟨x,hx,hxm,hd,ht⟩:=lt_get (l:=l) (i:=i) (by omega);obtain⟨b,o,rfl,hX,hcell⟩:=(hv.below hb).get hx;obtain⟨x',hx',hxm',hd',ht'⟩:=lt_get (l:=l') (i:=i) (by omega);obtain⟨b',o',rfl,hX',hcell'⟩:=(hv'.below hb).get hx';refine wpL_draw (fun w'=>∀a,w'.cell? a=wx.cell? a) mixed (by kernel_rfl) (fun _=>rfl) ?_
   have g0:∀w'':World,(∀a,w''.cell? a=wx.cell? a)→cellsAt w'' ⟨b,o+i*2,none⟩ 0 2=some [.int .i64 x.1,.int .i64 x.2]:=fun w'' hC=>cellsAt_of (encR x) 0 (fun j u hu=>by rw[hC];simpa using hcell j u hu)
   have g0':∀w'':World,(∀a,w''.cell? a=wx.cell? a)→cellsAt w'' ⟨b',o'+i*2,none⟩ 0 2=some [.int .i64 x'.1,.int .i64 x'.2]:=fun w'' hC=>cellsAt_of (encR x') 0 (fun j u hu=>by rw[hC];simpa using hcell' j u hu);have d0:=g0 wx.drew (fun _=>rfl);have d0':=g0' wx.drew (fun _=>rfl);push_cast -dsimp[d0,d0'];have hext:((x.1=x'.1∧x.2=x'.2))↔x=x':=by
    cases x;cases x';simp only[Prod.mk.injEq]
   rw[hext];refine⟨⟨by omega,by omega⟩,fun w'' hC=>by rw[g0 w'' hC];exact rfl,⟨by omega,by omega⟩,fun w'' hC=>by rw[g0' w'' hC];exact rfl,fun hne=>?_,fun heq=>?_⟩
   ·refine⟨?_,hb.drew⟩;rw[decide_eq_false];intro h;subst h;rw[hx]at hx';cases hx';exact hne rfl
   ·have heq:x=x':=Classical.byContradiction fun h=>heq h;exact⟨⟨by omega,by omega⟩,⟨i+1,rfl,by omega,by rw[ht,ht',hok,heq],hb.drew⟩,by rw[h13];simp only[intOf];omega⟩
  ·refine⟨?_,hb⟩;rw[List.take_of_length_le (by omega),List.take_of_length_le (by omega)]at hok;rw[decide_eq_true hok]
end Go.Proofs.YtledlfbbebodgaaGreatDoor
end
section
namespace Go.Proofs.YtledlfbbebodgaaGreatDoor
open Go.Vc Go.Proofs Go.RowKit Cae
structure SV where
 a:Option Addr
 n:Nat
 c:Nat
def SV.v (s:SV):Value:=.slice s.a s.n s.c
def encSV (s:SV):List Value:=[s.v]
theorem encSV_one:∀x,∀u∈encSV x,u.oneCell'=true:=by simp[encSV,SV.v,Value.oneCell']
structure PV where
 b:Bool
 s1:SV
 i1:SV
 s2:SV
 i2:SV
def encPV (u:PV):List Value:=[.bool u.b,u.s1.v,u.i1.v,u.s2.v,u.i2.v]
theorem encPV_one:∀x,∀u∈encPV x,u.oneCell'=true:=by simp[encPV,SV.v,Value.oneCell']
theorem ownRead {α β:Type}{base k:Nat}{e:TypeId}{enc:α→List Value}{R:List Value→β→Prop}{w:World}{v:Value}{us:List α}{l:List β}(h:Vc.Own base e k enc w v us)(hl:us.length=l.length)
  (hR:∀(i:Nat) (x:β),l[i]?=some x→∃u,us[i]?=some u∧R (enc u) x):Sl (·<base) k R w v l:=by
 have hs:=h.sl;unfold Sl at hs ⊢;obtain⟨a,c,he,hc,hh⟩:=hs;refine⟨a,c,by rw[he,hl],by omega,fun i x hx=>?_⟩;obtain⟨u,hu,hr⟩:=hR i x hx;obtain⟨b,o,cs,ha,hb,hcs,hcell,rfl⟩:=hh i u hu;exact⟨b,o,_,ha,hb,hcs,hcell,hr⟩
theorem SetsV.of_values {X:Nat→Prop}{w:World}{v:Value}{l:List (List Rg)}{us:List SV}(hl:us.length=l.length)(h:Sl X 1 (En encSV) w v us)(hu:∀(i:Nat) (u:SV) (s:List Rg),us[i]?=some u→l[i]?=some s→Sl X 2 (En encR) w u.v s):SetsV X w v l:=by
 obtain⟨a,c,rfl,hc⟩:=h.shape;refine⟨a,c,by rw[hl],by omega,fun i s hs=>?_⟩;have hlt:=(List.getElem?_eq_some_iff.1 hs).1;have hx:=List.getElem?_eq_getElem (l:=us) (i:=i) (by omega);obtain⟨b,o,cs,e,hX,hcs,hcell,rfl⟩:=h.getR hx;exact⟨b,o,_,e,hX,hcs,hcell,_,rfl,hu i _ s hx hs⟩
end Go.Proofs.YtledlfbbebodgaaGreatDoor
namespace Go.Vc
open Go.RowKit
theorem Sl.fresh {α:Type}{X X':Nat→Prop}{k:Nat}{enc:α→List Value}{w:World}{v:Value}{l:List α}(hk:∀x,0<(enc x).length)(h:Sl X k (En enc) w v l)(hX:∀b,X' b→X b∨w.heap.size≤b):Sl X' k (En enc) w v l:=by
 obtain⟨a,c,rfl,hc,h⟩:=h;refine⟨a,c,rfl,hc,fun i x hx=>?_⟩;obtain⟨b,o,cs,e,hnb,hl,hcell,rfl⟩:=h i x hx;refine⟨b,o,_,e,fun hb=>?_,hl,hcell,rfl⟩;have:b<w.heap.size:=World.block_lt_of_cell? w _ (hcell 0 _ (List.getElem?_eq_getElem (hk x)));rcases hX b hb with h|h
 ·exact hnb h
 ·omega
end Go.Vc
namespace Go.Vc
theorem Sl.moved {α:Type}{X Y Z:Nat→Prop}{k:Nat}{enc:α→List Value}{w w':World}{v:Value}{l:List α}(h:Sl X k (En enc) w v l)(hk:∀x,0<(enc x).length)(kc:Kept Y w w')(hY:∀i,Y i→X i)(hZ:∀b,Z b→X b∨w.heap.size≤b):Sl Z k (En enc) w' v l :=
 (((h.fresh hk (X':=fun b=>X b∨Z b) (fun b hb=>by
  rcases hb with hb|hb
  ·exact .inl hb
  ·exact hZ b hb)).kept kc (fun i hi=>.inl (hY i hi))).weaken (fun b hb=>.inr hb))
end Go.Vc
end
section
namespace Go.Proofs.YtledlfbbebodgaaGreatDoor
open Go.Vc Go.Proofs Go.RowKit Cae
attribute [local irreducible] wpL callK valK unitK runK Fun Sl Vc.Own vc vcOps opK pureK
theorem ifaceK_8 {L:VP}{other:Prop}(ty x)(p):ifaceK 8 ty x L other p=L (.iface ty x):=(rfl)
theorem und_wrongC:(Tryz.prog.underlying 111).isSome=true:=by kernel_rfl
attribute [push_cast] und_wrongC ifaceK_8
def ThrC (e:Int)(ce:List PanicEntry):Prop:=ce=[{ v:=.iface 111 (.agg #[.int .i64 e]),recovered:=false }]
def MkB (B mb nb:Nat)(back:Bool)(X:Nat→Prop)(w:World)(c:CodeP)(sv iv:Value)(us:List SV):Prop:=Blk w mb 115 [sv,iv,.map (some nb),.bool back]∧Vc.Own B 41 1 encSV w sv us∧Vc.Own B 109 3 encIn w iv c.ins∧us.length=c.sets.length ∧
  sv.ownBlock≠some mb∧iv.ownBlock≠some mb∧(∀g,sv.ownBlock=some g→iv.ownBlock≠some g) ∧
  ∀(i:Nat) (u:SV) (s:List Rg),us[i]?=some u→c.sets[i]?=some s→Sl (fun b=>X b∨b=mb∨sv.ownBlock=some b∨iv.ownBlock=some b) 2 (En encR) w u.v s
structure Mk (B mb nb:Nat)(back:Bool)(X:Nat→Prop)(w:World)(c:CodeP):Prop where
 st:∃sv iv us,MkB B mb nb back X w c sv iv us
 lt:mb<B
 le:B≤w.heap.size
 few:∀s∈c.sets,setRight (-2) s=true
 num:c.ins.length≤2000
 sum:c.sets.length≤c.ins.length+1
theorem Mk.below {B mb nb:Nat}{back:Bool}{X:Nat→Prop}{w w':World}{c:CodeP}(h:Mk B mb nb back X w c)(hb:Below w.heap.size w w'):Mk B mb nb back X w' c:=by
 obtain⟨sv,iv,us,hB,hO1,hO2,hul,hs1,hs2,hs3,hus⟩:=h.st;exact⟨⟨sv,iv,us,hB.below hb hB.lt,hO1.below hb,hO2.below hb,hul,hs1,hs2,hs3,fun i u s h1 h2=>(hus i u s h1 h2).below hb⟩,h.lt,Nat.le_trans h.le hb.size,h.few,h.num,h.sum⟩
def Mw (w:World)(mb i:Nat):Prop:=i=mb∨∃o v,w.cell? ⟨mb,o,none⟩=some v∧v.ownBlock=some i
structure Mst (mb:Nat)(w w':World):Prop where
 kept:Kept (Mw w mb) w w'
 own:∀i,Mw w' mb i→Mw w mb i∨w.heap.size≤i
theorem Mst.trans {mb:Nat}{a b c:World}(h:Mst mb a b)(k:Mst mb b c):Mst mb a c :=
 ⟨h.kept.trans k.kept (fun i hi hm=>(h.own i hm).resolve_right (by omega)),fun i hi=>by
  rcases k.own i hi with h1|h1
  ·exact h.own i h1
  ·have:=h.kept.size;exact .inr (by omega)⟩
theorem Mst.below {mb:Nat}{w w':World}(hb:Below w.heap.size w w')(hlt:mb<w.heap.size):Mst mb w w' :=
 ⟨Kept.of_below hb (fun i h1 h2=>by omega),fun i hi=>by
  rcases hi with hi|⟨o,v,h1,h2⟩
  ·exact .inl (.inl hi)
  ·refine .inl (.inr ⟨o,v,?_,h2⟩);rw[←hb.cell (p:=⟨mb,o,none⟩) hlt];exact h1⟩
theorem Mst.refl {mb:Nat}{w:World}(hlt:mb<w.heap.size):Mst mb w w:=Mst.below (Below.refl _ _) hlt
theorem mw_four {w:World}{mb i:Nat}{e:TypeId}{a b c d:Value}(h:Blk w mb e [a,b,c,d]):Mw w mb i↔i=mb∨a.ownBlock=some i∨b.ownBlock=some i∨c.ownBlock=some i∨d.ownBlock=some i:=by
 unfold Mw;constructor
 ·rintro(hi|⟨o,v,h1,h2⟩)
  ·exact .inl hi
  ·have hc:[a,b,c,d][o]?=some v:=by
    have hB:w.heap[mb]?=_:=h;simp only[World.cell?,hB]at h1;simpa using h1
   match o,hc with
   | 0,hc=>cases hc;exact .inr (.inl h2)
   | 1,hc=>cases hc;exact .inr (.inr (.inl h2))
   | 2,hc=>cases hc;exact .inr (.inr (.inr (.inl h2)))
   | 3,hc=>cases hc;exact .inr (.inr (.inr (.inr h2)))
   | _+4,hc=>simp at hc
 ·rintro(hi|hi|hi|hi|hi)
  ·exact .inl hi
  ·exact .inr ⟨0,a,h.cell rfl,hi⟩
  ·exact .inr ⟨1,b,h.cell rfl,hi⟩
  ·exact .inr ⟨2,c,h.cell rfl,hi⟩
  ·exact .inr ⟨3,d,h.cell rfl,hi⟩
theorem mw_maker {w:World}{mb i nb:Nat}{e:TypeId}{a b:Value}{back:Bool}(h:Blk w mb e [a,b,.map (some nb),.bool back]):Mw w mb i↔i=mb∨a.ownBlock=some i∨b.ownBlock=some i:=by
 rw[mw_four h];simp[Value.ownBlock]
theorem Mk.mw {B mb nb:Nat}{back:Bool}{X:Nat→Prop}{w:World}{c:CodeP}(h:Mk B mb nb back X w c){i:Nat}(hi:Mw w mb i):(i=mb∨B≤i)∧i<w.heap.size:=by
 obtain⟨sv,iv,us,hB,hO1,hO2,_⟩:=h.st;have hlt:=h.lt;have hle:=h.le;rcases(mw_maker hB).1 hi with hi|hi|hi
 ·exact⟨.inl hi,by omega⟩
 ·have:=hO1.block i hi;exact⟨.inr this.1,this.2⟩
 ·have:=hO2.block i hi;exact⟨.inr this.1,this.2⟩
theorem Mst.out {B mb nb:Nat}{back:Bool}{X:Nat→Prop}{w w':World}{c:CodeP}(h:Mst mb w w')(hM:Mk B mb nb back X w c):Kept (fun i=>i=mb∨B≤i) w w':=h.kept.weaken (fun i _ hi=>(hM.mw hi).1)
theorem here_c {B mb nb:Nat}{back:Bool}{X:Nat→Prop}{w:World}{c:CodeP}(h:Mk B mb nb back X w c):Fun Tryz.prog 121 [.pointer (some ⟨mb,0,none⟩)] w fun r w'=>r=.int .i64 c.ins.length∧w'=w:=by
 obtain⟨sv,iv,us,hB,hO1,hO2,hul,hs1,hs2,hs3,hus⟩:=h.st;obtain⟨ia,ic,rfl⟩:=hO2.slice;refine fun_of_vc Tryz.func121 rfl (by kernel_rfl) [2] rfl ?_;push_cast -dsimp(maxSteps:=4000000) [Tryz.ntmps121];have f1:w.cell? ⟨mb,1,none⟩=some (.slice ia c.ins.length ic):=hB.cell rfl;push_cast -dsimp[f1]
def CodeP.push (c:CodeP)(x:I3):CodeP:=⟨c.sets,c.ins++[x]⟩
theorem add_c {B mb nb:Nat}{back:Bool}{X:Nat→Prop}{w:World}{c:CodeP}(h:Mk B mb nb back X w c)(hsum:c.sets.length≤c.ins.length+1)(x:I3) :
  Fun2 Tryz.prog 49 [.pointer (some ⟨mb,0,none⟩),.agg #[.int .i64 x.op,.int .i64 x.a,.int .i64 x.b]] w
   (fun r w'=>c.ins.length<2000∧r=.int .i64 c.ins.length∧Mk B mb nb back X w' (CodeP.push c x)∧Mst mb w w') (fun ce w'=>c.ins.length=2000∧ThrC 4 ce∧Mst mb w w'):=by
 obtain⟨sv,iv,us,hB,hO1,hO2,hul,hs1,hs2,hs3,hus⟩:=h.st;obtain⟨sa,sc,rfl⟩:=hO1.slice;obtain⟨ia,ic,rfl⟩:=hO2.slice;have hle:=h.le;have hlt:=h.lt;have hnum:=h.num;refine fun2_of_vc Tryz.func49 rfl (by kernel_rfl) [.tmp 4] rfl ?_;push_cast -dsimp(maxSteps:=4000000) [Tryz.ntmps49];refine boxK_of ?_;intro w1 hw1;have hw1:New w w1 109 [.int .i64 x.op,.int .i64 x.a,.int .i64 x.b]:=hw1;have z1:=hw1.size
 have T1:=hw1.blk;have B1:=hB.below hw1.below hB.lt;have f1:w1.cell? ⟨mb,1,none⟩=some (.slice ia c.ins.length ic):=B1.cell rfl;have k1:Mst mb w w1:=Mst.below hw1.below (by omega);push_cast -dsimp[f1];refine⟨fun h2000=>?_,fun h2000=>?_⟩
 ·refine panicK ?_;push_cast -dsimp;exact⟨by omega,rfl,k1⟩
 ·have B1d:=B1.drew;have T1d:=T1.drew;refine wpL_lastN (fun w'=>Blk w' mb 115 [.slice sa us.length sc,.slice ia c.ins.length ic,.map (some nb),.bool back]∧Blk w' w.heap.size 109 [.int .i64 x.op,.int .i64 x.a,.int .i64 x.b]) mixed (by kernel_rfl) (by simp) ⟨B1d,T1d⟩ ?_;have g1:w1.drew.cell? ⟨mb,1,none⟩=some (.slice ia c.ins.length ic):=B1d.cell rfl
  have g2:cellsAt w1.drew ⟨w.heap.size,0,none⟩ 0 3=some [.int .i64 x.op,.int .i64 x.a,.int .i64 x.b]:=T1d.cellsAt;push_cast -dsimp[g1,g2];refine⟨fun w'' h=>by rw[h.1.cell (o:=1) rfl];exact rfl,fun w'' h=>by rw[show cellsAt w'' ⟨w.heap.size,0,none⟩ 0 3=some [.int .i64 x.op,.int .i64 x.a,.int .i64 x.b] from h.2.cellsAt];exact rfl,?_⟩;refine rowK elI_68 rfl rfl (by omega) ?_;intro wa hwa
  have za:wa.heap.size=w1.heap.size+1:=hwa.size;have Ba:=B1d.below hwa.below B1d.lt;have Ta:=T1d.below hwa.below T1d.lt;refine⟨⟨Ba,Ta⟩,?_⟩;have hO2d:Vc.Own B 109 3 encIn w1.drew (.slice ia c.ins.length ic) c.ins:=(hO2.new hw1).keptX ((Kept.refl (fun _=>False) w1).drew) (fun _ _ h=>h);have hOa:=hO2d.new hwa;push_cast -dsimp
  refine appendK2 (base:=B) [x] (enc:=encIn) elI_68 hOa (by rfl) (fun j u hu=>by simpa[encIn] using hwa.cell hu) (by simp[encIn,Value.oneCell']) (by simp only[List.length_cons,List.length_nil];omega) (by show B≤wa.heap.size;omega) ?_;intro vb wb hob hgb hnb;have hiv:∀g,(Value.slice ia c.ins.length ic).ownBlock=some g→B≤g∧g<w.heap.size:=fun g hg=>hO2.block g hg
  have kb:Kept (fun j=>(Value.slice ia c.ins.length ic).ownBlock=some j) w1.drew wb:=(Kept.new hwa).trans (Kept.grown hgb (fun _ h=>h)) (fun _ _ h=>h);have Bb:=B1d.kept kb (fun h=>hs2 h);have Tb:=T1d.kept kb (fun h=>by have:=hiv _ h;omega);refine⟨⟨Bb,Tb⟩,?_⟩;obtain⟨ib,icb,rfl⟩:=hob.slice;push_cast -dsimp;refine storeK_of Bb (by simp) rfl ?_;intro wc hwc;have zc:=hwc.size
  have Bc:Blk wc mb 115 [.slice sa us.length sc,.slice ib (c.ins++[x]).length icb,.map (some nb),.bool back]:=hwc.blk;have kd9:Kept (fun _=>False) w1 w1.drew:=(Kept.refl _ _).drew;have kc:Kept (fun j=>(Value.slice ia c.ins.length ic).ownBlock=some j∨j=mb) w1 wc:=((kd9.weaken (fun _ _ h=>h.elim)).trans kb (fun _ _ h=>.inl h)).trans hwc.kept (fun _ _ h=>.inr h)
  have hO2c:=hob.keptX hwc.kept (fun g hg hh=>by have:=(hob.block g hg).1;have h':g=mb:=hh;omega);have hO1c:=(hO1.new hw1).keptX kc (fun g hg hh=>by
   rcases hh with hh|hh
   ·exact hs3 g hg hh
   ·exact hs1 (by rw[←hh];exact hg))
  have kw:Mst mb w wc:=k1.trans ⟨kc.weaken (fun i _ hi=>by
   rw[mw_maker B1];rcases hi with hi|hi
   ·exact .inr (.inr hi)
   ·exact .inl hi),fun i hi=>by
   rw[mw_maker Bc]at hi;rw[mw_maker B1];rcases hi with hi|hi|hi
   ·exact .inl (.inl hi)
   ·exact .inl (.inr (.inl hi))
   ·rcases hnb i hi with h1|h1
    ·exact .inl (.inr (.inr h1))
    ·have:wa.heap.size≤i:=h1;exact .inr (by omega)⟩
  have Ct:Mk B mb nb back X wc (CodeP.push c x):=by
   refine⟨⟨_,_,_,Bc,hO1c,hO2c,hul,hs1,fun hh=>by have:=(hO2c.block _ hh).1;omega,ownNe hO1c hO2c (by decide),fun i u t h1 h2=>?_⟩,h.lt,by have:=kw.kept.size;omega,h.few,by simp[CodeP.push];omega,by simp[CodeP.push];omega⟩;refine((hus i u t h1 h2).below hw1.below).moved (fun _=>by simp[encR]) kc (fun i hi=>by
    rcases hi with hi|hi
    ·exact .inr (.inr (.inr hi))
    ·exact .inr (.inl hi)) (fun b hb=>?_)
   rcases hb with hb|hb|hb|hb
   ·exact .inl (.inl hb)
   ·exact .inl (.inr (.inl hb))
   ·exact .inl (.inr (.inr (.inl hb)))
   ·rcases hnb b hb with hh|hh
    ·exact .inl (.inr (.inr (.inr hh)))
    ·exact .inr (by omega)
  refine⟨trivial,?_⟩;have c1:wc.cell? ⟨mb,1,none⟩=some (.slice ib (c.ins++[x]).length icb):=Bc.cell rfl;push_cast -dsimp[c1];refine⟨by rw[List.length_append];simp only[List.length_cons,List.length_nil];omega,by omega,?_,Ct,kw⟩;congr 1;rw[List.length_append];simp only[List.length_cons,List.length_nil];omega
theorem MkB.below {B mb nb:Nat}{back:Bool}{X:Nat→Prop}{w w':World}{c:CodeP}{sv iv:Value}{us:List SV}(h:MkB B mb nb back X w c sv iv us)(hb:Below w.heap.size w w'):MkB B mb nb back X w' c sv iv us:=by
 obtain⟨hB,hO1,hO2,hul,hs1,hs2,hs3,hus⟩:=h;exact⟨hB.below hb hB.lt,hO1.below hb,hO2.below hb,hul,hs1,hs2,hs3,fun i u s h1 h2=>(hus i u s h1 h2).below hb⟩
theorem alikeT_c (t s:List Rg)(ht:t.length<10000000)(hs:s.length<10000000)(X X':Nat→Prop)(v u:Value)(sb:Nat)(w:World)(hv:Sl X 2 (En encR) w v t)(hu:Sl X' 2 (En encR) w u s)(hc:w.cell? ⟨sb,0,none⟩=some u) :
  Fun Tryz.prog 119 [v,.pointer (some ⟨sb,0,none⟩)] w fun r w'=>r=.bool (s == t)∧Below w.heap.size w w':=by
 obtain⟨a,c,rfl,hcc⟩:=hv.shape;obtain⟨a',c',rfl,hcc'⟩:=hu.shape;refine fun_of_vc Tryz.func119 rfl (by kernel_rfl) [3] rfl ?_;push_cast -dsimp(maxSteps:=4000000) [Tryz.ntmps119];push_cast -dsimp[hc];refine callK_of (equalR_c s t hs X' X _ _ w hu hv) ?_;rintro _ w1 ⟨rfl,hb⟩;push_cast -dsimp;refine⟨?_,hb⟩;congr 1;by_cases h:s=t
 ·subst h;simp
 ·rw[decide_eq_false h,beq_eq_false_iff_ne.2 h]
theorem setIdxT_c (s:List Rg)(hs:s.length<10000000)(l:List (List Rg))(hl:l.length<1000000000)(hls:∀t∈l,t.length<10000000)(X X':Nat→Prop)(v u:Value)(sb:Nat)(w:World)(hv:SetsV X w v l)(hu:Sl X' 2 (En encR) w u s)(hc:w.cell? ⟨sb,0,none⟩=some u) :
  Fun Tryz.prog 118 [v,.func (.func 119) #[] #[.pointer (some ⟨sb,0,none⟩)]] w fun r w'=>((∃i:Nat,r=.int .i64 i∧l[i]?=some s)∨r=.int .i64 (-1))∧Below w.heap.size w w':=by
 obtain⟨a,c,rfl,hcc⟩:=hv.shape;refine fun_of_vc Tryz.func118 rfl (by kernel_rfl) [4] rfl ?_;push_cast -dsimp(maxSteps:=4000000) [Tryz.ntmps118];refine wpL_loop [4,5,8,9,10,11,12,13,14,15,16,17,18] (fun z wx=>∃(i:Nat),z 8=.int .i64 i∧i≤l.length∧Below w.heap.size w wx) (fun z _=>l.length-(intOf (z 8)).toNat) ?_ ?_
 ·exact⟨0,rfl,Nat.zero_le _,Below.refl _ _⟩
 ·intro z wx hI;obtain⟨i,h8,hi,hb⟩:=hI;push_cast -dsimp[h8];refine⟨fun hlt=>?_,fun hge=>?_⟩
  ·obtain⟨x,hx,hxm,hd,ht⟩:=lt_get (l:=l) (i:=i) (by omega);obtain⟨b,o,cs,ha,hX,hk,hcell,u0,rfl,hu0⟩:=Sl.getR (hv.below hb) hx;subst ha;have c0:wx.cell? ⟨b,o+i,none⟩=some u0:=by simpa using hcell 0 u0 rfl
   obtain⟨a0,k0,rfl,hk0⟩:=hu0.shape;push_cast -dsimp[c0,Nat.mul_one];refine⟨⟨by omega,by omega⟩,?_⟩;refine callK_of (alikeT_c x s (hls x hxm) hs X X' _ _ sb wx hu0 (hu.below hb) ((hb.cell (World.block_lt_of_cell? w _ hc)).trans hc)) ?_;rintro _ w1 ⟨rfl,hb1⟩;have hB1:=hb.trans (hb1.mono hb.size);cases hst:(s == x) with
   | true =>
    have hsx:s=x:=eq_of_beq hst;subst hsx;push_cast -dsimp;exact⟨.inl ⟨i,rfl,hx⟩,hB1⟩
   | false =>
    push_cast -dsimp;exact⟨⟨by omega,by omega⟩,⟨i+1,rfl,by omega,hB1⟩,by rw[h8];simp only[intOf];omega⟩
  ·exact⟨.inr trivial,hb⟩
structure Ext (c c':CodeP):Prop where
 ins:∀(k:Nat) (x:I3),c.ins[k]?=some x→c'.ins[k]?=some x
 sets:∀(k:Nat) (s:List Rg),c.sets[k]?=some s→c'.sets[k]?=some s
 sum:c'.sets.length+c.ins.length≤c.sets.length+c'.ins.length
theorem Ext.refl (c:CodeP):Ext c c:=⟨fun _ _ h=>h,fun _ _ h=>h,Nat.le_refl _⟩
theorem Ext.trans {a b c:CodeP}(h:Ext a b)(k:Ext b c):Ext a c:=⟨fun i x hx=>k.ins i x (h.ins i x hx),fun i x hx=>k.sets i x (h.sets i x hx),by have:=h.sum;have:=k.sum;omega⟩
theorem Ext.push (c:CodeP)(x:I3):Ext c (CodeP.push c x):=⟨fun k y h=>by
 show (c.ins++[x])[k]?=some y
 rw[List.getElem?_append_left (List.getElem?_eq_some_iff.1 h).1];exact h,fun _ _ h=>h,by simp[CodeP.push]⟩
theorem mtake_c {B mb nb:Nat}{back:Bool}{X:Nat→Prop}{w:World}{c:CodeP}{sv iv:Value}{us:List SV}(h:Mk B mb nb back X w c)(hM:MkB B mb nb back X w c sv iv us)(hsum:c.sets.length≤c.ins.length)(s:List Rg)(hr:setRight (-2) s=true)(v:Value)
  (hv:Sl (fun b=>X b∨b=mb∨sv.ownBlock=some b∨iv.ownBlock=some b) 2 (En encR) w v s) :
  Fun2 Tryz.prog 75 [.pointer (some ⟨mb,0,none⟩),v] w
   (fun r w'=>c.ins.length<2000∧(∃(c':CodeP) (i:Nat),Mk B mb nb back X w' c'∧Ext c c'∧c'.ins.length=c.ins.length+1∧c'.ins[c.ins.length]?=some ⟨1,(i:Int),0⟩∧c'.sets[i]?=some s)∧Mst mb w w') (fun ce w'=>c.ins.length=2000∧ThrC 4 ce∧Mst mb w w'):=by
 obtain⟨hB,hO1,hO2,hul,hs1,hs2,hs3,hus⟩:=hM;obtain⟨sa,sc,rfl⟩:=hO1.slice;obtain⟨ia,ic,rfl⟩:=hO2.slice;obtain⟨va,vc,rfl,hvc⟩:=hv.shape;have hle:=h.le;have hlt:=h.lt;have hnum:=h.num;have hsl:=right_len hr;refine fun2_of_vc Tryz.func75 rfl (by kernel_rfl) [] rfl ?_;push_cast -dsimp(maxSteps:=4000000) [Tryz.ntmps75];refine boxK_of ?_;intro w1 hw1;have hw1:New w w1 41 [.slice va s.length vc]:=hw1
 have z1:=hw1.size;have T1:=hw1.blk;have B1:=hB.below hw1.below hB.lt;have f0:w1.cell? ⟨mb,0,none⟩=some (.slice sa us.length sc):=B1.cell rfl;have t0:w1.cell? ⟨w.heap.size,0,none⟩=some (.slice va s.length vc):=T1.cell rfl;push_cast -dsimp[f0]
 have hSV:SetsV (fun _=>False) w1 (.slice sa us.length sc) c.sets:=SetsV.of_values hul ((hO1.new hw1).sl.weaken (fun _ h=>h.elim)) (fun i u s h1 h2=>((hus i u s h1 h2).below hw1.below).weaken (fun _ h=>h.elim))
 refine callK_of (setIdxT_c s (by omega) c.sets (by omega) (fun x hx=>by have:=right_len (h.few x hx);omega) (fun _=>False) (fun _=>False) (.slice sa us.length sc) (.slice va s.length vc) w.heap.size w1 hSV ((hv.below hw1.below).weaken (fun _ h=>h.elim)) t0) ?_;rintro r w2 ⟨hr2,hb2⟩;have z2:=hb2.size;have hbw2:=hw1.below.trans (hb2.mono (by omega));have k2:Mst mb w w2:=Mst.below hbw2 (by omega)
 rcases hr2 with ⟨i,rfl,hi⟩|rfl
 ·push_cast -dsimp;refine⟨fun h0=>by omega,fun h0=>?_⟩;refine callP_of (add_c (h.below hbw2) (by omega) ⟨1,(i:Int),0⟩) ?_ ?_
  ·rintro _ w3 ⟨hl,rfl,hM3,k3⟩;push_cast -dsimp;exact⟨hl,⟨_,i,hM3,Ext.push c _,by simp[CodeP.push],by show (c.ins++[_])[c.ins.length]?=_;rw[List.getElem?_append_right (Nat.le_refl _),Nat.sub_self];rfl,hi⟩,k2.trans k3⟩
  ·rintro ce w3 ⟨hl,ht,k3⟩;push_cast -dsimp;exact⟨hl,ht,k2.trans k3⟩
 ·push_cast -dsimp;have B2:=B1.below hb2 B1.lt;have T2:=T1.below hb2 T1.lt;have B2d:=B2.drew;have T2d:=T2.drew;refine wpL_lastN (fun w'=>Blk w' mb 115 [.slice sa us.length sc,.slice ia c.ins.length ic,.map (some nb),.bool back]∧Blk w' w.heap.size 41 [.slice va s.length vc]) mixed (by kernel_rfl) (by simp) ⟨B2d,T2d⟩ ?_;have g0:w2.drew.cell? ⟨mb,0,none⟩=some (.slice sa us.length sc):=B2d.cell rfl
  have g1:w2.drew.cell? ⟨w.heap.size,0,none⟩=some (.slice va s.length vc):=T2d.cell rfl;push_cast -dsimp[g0,g1];refine⟨fun w'' h=>by rw[h.1.cell (o:=0) rfl];exact rfl,fun w'' h=>by rw[h.2.cell (o:=0) rfl];exact rfl,?_⟩;refine rowK elI_67 rfl rfl (by omega) ?_;intro wa hwa;have za:wa.heap.size=w2.heap.size+1:=hwa.size;have Ba:=B2d.below hwa.below B2d.lt;have Ta:=T2d.below hwa.below T2d.lt
  refine⟨⟨Ba,Ta⟩,?_⟩;have hO1d:Vc.Own B 41 1 encSV w2.drew (.slice sa us.length sc) us:=((hO1.new hw1).below hb2).keptX ((Kept.refl (fun _=>False) w2).drew) (fun _ _ h=>h);have hO1a:=hO1d.new hwa;push_cast -dsimp
  refine appendK2 (base:=B) [(⟨va,s.length,vc⟩:SV)] (enc:=encSV) elI_67 hO1a (by rfl) (fun j u hu=>by simpa[encSV,SV.v] using hwa.cell hu) encSV_one (by simp only[List.length_cons,List.length_nil];omega) (by show B≤wa.heap.size;omega) ?_;intro vb wb hob hgb hnb;have hsv:∀g,(Value.slice sa us.length sc).ownBlock=some g→B≤g∧g<w.heap.size:=fun g hg=>hO1.block g hg
  have kb:Kept (fun j=>(Value.slice sa us.length sc).ownBlock=some j) w2.drew wb:=(Kept.new hwa).trans (Kept.grown hgb (fun _ h=>h)) (fun _ _ h=>h);have Bb:=B2d.kept kb (fun h=>hs1 h);have Tb:=T2d.kept kb (fun h=>by have:=hsv _ h;omega);refine⟨⟨Bb,Tb⟩,?_⟩;have zb:w2.heap.size+1≤wb.heap.size:=by have:=hgb.size;omega
  obtain⟨ib,icb,rfl⟩:=hob.slice;push_cast -dsimp;refine storeK_of Bb (by simp) rfl ?_;intro wc hwc;have zc:=hwc.size;have Bc:Blk wc mb 115 [.slice ib (us++[(⟨va,s.length,vc⟩:SV)]).length icb,.slice ia c.ins.length ic,.map (some nb),.bool back]:=hwc.blk;have c0:wc.cell? ⟨mb,0,none⟩=some (.slice ib (us++[(⟨va,s.length,vc⟩:SV)]).length icb):=Bc.cell rfl
  have kd2:Kept (fun _=>False) w2 w2.drew:=(Kept.refl _ _).drew;have kc:Kept (fun j=>(Value.slice sa us.length sc).ownBlock=some j∨j=mb) w2 wc:=((kd2.weaken (fun _ _ h=>h.elim)).trans kb (fun _ _ h=>.inl h)).trans hwc.kept (fun _ _ h=>.inr h);have hlu:(us++[(⟨va,s.length,vc⟩:SV)]).length=c.sets.length+1:=by simp[hul]
  have kw:Mst mb w wc:=k2.trans ⟨kc.weaken (fun i _ hi=>by
   rw[mw_maker B2];rcases hi with hi|hi
   ·exact .inr (.inl hi)
   ·exact .inl hi),fun i hi=>by
   rw[mw_maker Bc]at hi;rw[mw_maker B2];rcases hi with hi|hi|hi
   ·exact .inl (.inl hi)
   ·rcases hnb i hi with h1|h1
    ·exact .inl (.inr (.inl h1))
    ·have:wa.heap.size≤i:=h1;exact .inr (by omega)
   ·exact .inl (.inr (.inr hi))⟩
  have hO1c:=hob.keptX hwc.kept (fun g hg hh=>by have:=(hob.block g hg).1;have h':g=mb:=hh;omega);have hO2c:Vc.Own B 109 3 encIn wc (.slice ia c.ins.length ic) c.ins:=(hO2.below hbw2).keptX kc (fun g hg hh=>by
   rcases hh with hh|hh
   ·exact hs3 g hh hg
   ·exact hs2 (by rw[←hh];exact hg))
  have hmem:∀b,(X b∨b=mb∨(Value.slice ib (us++[(⟨va,s.length,vc⟩:SV)]).length icb).ownBlock=some b∨(Value.slice ia c.ins.length ic).ownBlock=some b)→(X b∨b=mb∨(Value.slice sa us.length sc).ownBlock=some b∨(Value.slice ia c.ins.length ic).ownBlock=some b)∨w2.heap.size≤b:=fun b hb=>by
   rcases hb with hb|hb|hb|hb
   ·exact .inl (.inl hb)
   ·exact .inl (.inr (.inl hb))
   ·rcases hnb b hb with h1|h1
    ·exact .inl (.inr (.inr (.inl h1)))
    ·have:wa.heap.size≤b:=h1;exact .inr (by omega)
   ·exact .inl (.inr (.inr (.inr hb)))
  have hkc:∀i,((Value.slice sa us.length sc).ownBlock=some i∨i=mb)→(X i∨i=mb∨(Value.slice sa us.length sc).ownBlock=some i∨(Value.slice ia c.ins.length ic).ownBlock=some i):=fun i hi=>by
   rcases hi with hi|hi
   ·exact .inr (.inr (.inl hi))
   ·exact .inr (.inl hi)
  have Mc:Mk B mb nb back X wc ⟨c.sets++[s],c.ins⟩:=by
   refine⟨⟨_,_,_,Bc,hO1c,hO2c,by simp[hul],fun hh=>by have:=(hO1c.block _ hh).1;omega,hs2,ownNe hO1c hO2c (by decide),fun i u x h1 h2=>?_⟩,h.lt,by have:=kw.kept.size;omega,fun x hx=>?_,h.num,by simp only[List.length_append,List.length_cons,List.length_nil];omega⟩
   ·have hlt':i<(us++[(⟨va,s.length,vc⟩:SV)]).length:=(List.getElem?_eq_some_iff.1 h1).1;by_cases hi:i<us.length
    ·rw[List.getElem?_append_left hi]at h1;rw[List.getElem?_append_left (by omega)]at h2;exact((hus i u x h1 h2).below hbw2).moved (fun _=>by simp[encR]) kc hkc hmem
    ·have e:i=us.length:=by rw[List.length_append,List.length_cons,List.length_nil]at hlt';omega
     subst e;rw[List.getElem?_append_right (Nat.le_refl _),Nat.sub_self]at h1;rw[hul,List.getElem?_append_right (Nat.le_refl _),Nat.sub_self]at h2;simp at h1 h2;subst h1;subst h2;exact(hv.below hbw2).moved (fun _=>by simp[encR]) kc hkc hmem
   ·rw[List.mem_append,List.mem_singleton]at hx;rcases hx with hx|rfl
    ·exact h.few x hx
    ·exact hr
  refine⟨trivial,?_⟩;push_cast -dsimp[c0];have hk:(((us++[(⟨va,s.length,vc⟩:SV)]).length:Nat):Int)-1=(c.sets.length:Nat):=by rw[hlu];omega
  refine⟨by omega,?_⟩;rw[hk];refine callP_of (add_c Mc (by simp only[List.length_append,List.length_cons,List.length_nil];omega) ⟨1,(c.sets.length:Int),0⟩) ?_ ?_
  ·rintro _ w3 ⟨hl,rfl,hM3,k3⟩;push_cast -dsimp;refine⟨hl,⟨_,c.sets.length,hM3,⟨fun k y hy=>?_,fun k y hy=>?_,by simp[CodeP.push];omega⟩,by simp[CodeP.push],by show (c.ins++[_])[c.ins.length]?=_;rw[List.getElem?_append_right (Nat.le_refl _),Nat.sub_self];rfl,by show (c.sets++[s])[c.sets.length]?=_;rw[List.getElem?_append_right (Nat.le_refl _),Nat.sub_self];rfl⟩,kw.trans k3⟩
   ·show (c.ins++[_])[k]?=some y
    rw[List.getElem?_append_left (List.getElem?_eq_some_iff.1 hy).1];exact hy
   ·show (c.sets++[s])[k]?=some y
    rw[List.getElem?_append_left (List.getElem?_eq_some_iff.1 hy).1];exact hy
  ·rintro ce w3 ⟨hl,ht,k3⟩;push_cast -dsimp;exact⟨hl,ht,kw.trans k3⟩
end Go.Proofs.YtledlfbbebodgaaGreatDoor
end
section
namespace Go.Vc
theorem Own.at0 {α:Type}{base k:Nat}{e:TypeId}{enc:α→List Value}{w:World}{b o n c:Nat}{l:List α}(h:Vc.Own base e k enc w (.slice (some ⟨b,o,none⟩) n c) l):o=0:=by
 rcases h.1.2 with ⟨he,_⟩|⟨g,cap,cr,he,_⟩
 ·cases he
 ·cases he;rfl
end Go.Vc
end
section
namespace Go.Proofs.YtledlfbbebodgaaGreatDoor
open Go.Vc Go.Proofs Go.RowKit Cae
attribute [local irreducible] wpL callK valK unitK runK Fun Sl Vc.Own vc vcOps opK pureK
theorem PatsV.below {X:Nat→Prop}{w w':World}{l:List PatP}{vs:List Nat}(h:PatsV X w vs l)(hb:Below w.heap.size w w'):PatsV X w' vs l :=
 PatsV.mono (X:=fun b=>X b∨w.heap.size≤b) (Y:=fun b=>w.heap.size≤b) (Kept.of_below hb (fun i h1 h2=>h1)) (fun _ h=>.inr h) (fun _ h=>.inl h) h.top
theorem PatsV.reverse {X:Nat→Prop}{w:World}:∀{l:List PatP} {vs:List Nat},PatsV X w vs l→PatsV X w vs.reverse l.reverse
 | [],[],_=>by simp only[List.reverse_nil,PatsV]
 | [],_::_,h=>by simp only[PatsV]at h
 | _::_,[],h=>by simp only[PatsV]at h
 | x::l,v::vs,h=>by
  simp only[PatsV]at h;rw[List.reverse_cons,List.reverse_cons];exact PatsV.snoc (PatsV.reverse h.2) h.1
theorem reverseP_c (l:List Nat)(base:Nat)(v:Value)(w:World)(hn:l.length<1000000000)(ho:Vc.Own base 35 1 encP w v l)(hb0:base≤w.heap.size) :
  Fun Tryz.prog 77 [v] w fun _ w'=>Vc.Own base 35 1 encP w' v l.reverse∧Kept (fun j=>v.ownBlock=some j) w w':=by
 obtain⟨a,c,rfl⟩:=ho.slice;refine fun_of_vc Tryz.func77 rfl (by kernel_rfl) [] rfl ?_;push_cast -dsimp(maxSteps:=4000000) [Tryz.ntmps77];refine⟨⟨by omega,by omega⟩,?_⟩
 refine wpL_loop [2,3,7,8,9,10,11,12,13,14,15,16,17,18,19,20,21,22,23,24,25,26,27] (fun z wx=>∃(i:Nat) (cur:List Nat),z 2=.int .i64 i∧z 3=.int .i64 ((l.length:Int)-1-i)∧2*i≤l.length∧cur.length=l.length∧(∀k,k<l.length→cur[k]?=if k<i∨l.length-i≤k then l[l.length-1-k]? else l[k]?)∧Vc.Own base 35 1 encP wx (.slice a l.length c) cur∧Kept (fun j=>(Value.slice a l.length c).ownBlock=some j) w wx) (fun z _=>l.length-(intOf (z 2)).toNat) ?_ ?_
 ·exact⟨0,l,rfl,by simp[at_],by omega,rfl,fun k hk=>by rw[if_neg (by omega)],ho,Kept.refl _ _⟩
 ·intro z wx hI;obtain⟨i,cur,h2,h3,hi,hcl,hcur,hox,hb⟩:=hI;have szx:=hb.size;push_cast -dsimp[h2,h3];refine⟨fun hlt=>?_,fun hge=>?_⟩
  ·have hex:∃(x y:Nat) (g:Nat),cur[i]?=some x∧cur[l.length-1-i]?=some y∧a=some ⟨g,0,none⟩∧wx.cell? ⟨g,i,none⟩=some (ptrP x)∧wx.cell? ⟨g,l.length-1-i,none⟩=some (ptrP y):=by
    obtain⟨x,hx,_⟩:=lt_get (l:=cur) (i:=i) (by omega);obtain⟨y,hy,_⟩:=lt_get (l:=cur) (i:=l.length-1-i) (by omega);have hgx:=hox.sl.get hx;have hgy:=hox.sl.get hy;obtain⟨b,o,e,_,hcx⟩:=hgx;obtain⟨b',o',e',_,hcy⟩:=hgy;rw[e]at e';cases e';have ho0:o=0:=Vc.Own.at0 (by rw[←e];exact hox);subst ho0;exact⟨x,y,b,hx,hy,e,by simpa using hcx 0 _ rfl,by simpa using hcy 0 _ rfl⟩
   obtain⟨x,y,g,hx,hy,he,cx,cy⟩:=hex;subst he;have ej:((l.length:Int)-1-i)=((l.length-1-i:Nat):Int):=by omega
   rw[ej];unfold ptrP at cx cy;refine wpL_told [0,1,2,3,4,5,6,7,8,9,10,11,12] 13 [14,15] (fun w'=>w'=wx.drew) mixed (by kernel_rfl) rfl ?_;have cx':wx.drew.cell? ⟨g,i,none⟩=some (.pointer (some ⟨x,0,none⟩)):=cx;have cy':wx.drew.cell? ⟨g,l.length-1-i,none⟩=some (.pointer (some ⟨y,0,none⟩)):=cy
   have hod:Vc.Own base 35 1 encP wx.drew (.slice (some ⟨g,0,none⟩) l.length c) cur:=hox.keptX (Kept.refl (fun _=>False) _).drew (fun _ _ h=>h);push_cast -dsimp[cx',cy'];refine⟨⟨by omega,by omega⟩,fun w'' hC=>by rw[hC,cy'];exact rfl,⟨by omega,by omega⟩,fun w'' hC=>by rw[hC,cx'];exact rfl,⟨by omega,by omega⟩,?_⟩;refine storeOwn (i:=i) (y:=y) hod rfl (by omega) rfl rfl ?_;intro w1 ho1 hk1 sz1
   refine⟨trivial,?_⟩;push_cast -dsimp;refine⟨⟨by omega,by omega⟩,?_⟩;have hl1:l.length-1-i<(cur.set i y).length:=by rw[List.length_set];omega
   have el1:(cur.set i y).length=cur.length:=List.length_set;refine storeOwn (i:=l.length-1-i) (y:=x) ho1 rfl hl1 rfl rfl ?_;intro w2 ho2 hk2 sz2;have hkd:Kept (fun j=>(Value.slice (some ⟨g,0,none⟩) l.length c).ownBlock=some j) wx w2:=(((Kept.refl (fun j=>j=g) wx).drew).trans hk1 (fun _ _ h=>h)).trans hk2 (fun _ _ h=>h) |>.weaken (fun j _ h=>by rw[h];rfl);refine⟨trivial,?_⟩;push_cast -dsimp
   refine⟨⟨by omega,by omega⟩,⟨by omega,by omega⟩,⟨i+1,(cur.set i y).set (l.length-1-i) x,rfl,by congr 1;omega,by omega,by rw[List.length_set,List.length_set];exact hcl,fun k hk=>?_,ho2,hb.trans hkd (fun _ _ h=>h)⟩,by rw[h2];simp only[intOf];omega⟩;rw[List.getElem?_set,List.getElem?_set];have hci:=hcur i (by omega);have hcj:=hcur (l.length-1-i) (by omega);rw[if_neg (by omega)]at hci hcj
   rw[hx]at hci;rw[hy]at hcj;by_cases e1:l.length-1-i=k
   ·rw[if_pos e1,if_pos hl1,if_pos (by omega),hci];congr 1;omega
   ·rw[if_neg e1];by_cases e2:i=k
    ·rw[if_pos e2,if_pos (by omega),if_pos (by omega),hcj];congr 1;omega
    ·rw[if_neg e2,hcur k hk];by_cases e3:k<i∨l.length-i≤k
     ·rw[if_pos e3,if_pos (by omega)]
     ·rw[if_neg e3,if_neg (by omega)]
  ·have hrev:cur=l.reverse:=by
    apply List.ext_getElem?;intro k;by_cases hk:k<l.length
    ·rw[hcur k hk,List.getElem?_reverse hk];split
     ·rfl
     ·congr 1;omega
    ·rw[List.getElem?_eq_none (by omega),List.getElem?_eq_none (by rw[List.length_reverse];omega)]
   subst hrev;exact⟨hox,hb⟩
end Go.Proofs.YtledlfbbebodgaaGreatDoor
end
section
namespace Cae
theorem clenL_append:∀(l m:List PatP),clenL (l++m)=clenL l+clenL m
 | [],m=>by simp[clenL]
 | x::l,m=>by rw[List.cons_append,clenL,clenL,clenL_append l m];omega
theorem clenL_reverse:∀(l:List PatP),clenL l.reverse=clenL l
 | []=>rfl
 | x::l=>by rw[List.reverse_cons,clenL_append,clenL_reverse l,clenL,clenL,clenL];omega
theorem clenL_take (l:List PatP)(i:Nat){y:PatP}(h:l[i]?=some y):clenL (l.take i)+clen y≤clenL l∧clenL (l.take (i+1))=clenL (l.take i)+clen y:=by
 obtain⟨hlt,he⟩:=List.getElem?_eq_some_iff.1 h;have e1:l.take (i+1)=l.take i++[y]:=by rw[List.take_add_one,h];rfl
 have e2:clenL (l.take (i+1))=clenL (l.take i)+clen y:=by rw[e1,clenL_append];simp[clenL]
 have e3:clenL l=clenL (l.take (i+1))+clenL (l.drop (i+1)):=by rw[←clenL_append,List.take_append_drop]
 exact⟨by omega,e2⟩
section
variable {has:KindP→Int→Prop} {c c':CodeP} {back:Bool}
theorem segF_app {back:Bool}:∀(l m:List PatP) (a b:Nat),SegF has c back (l++m) a b↔∃k,SegF has c back l a k∧SegF has c back m k b
 | [],m,a,b=>by simp[SegF]
 | x::l,m,a,b=>by
  simp only[List.cons_append,SegF,segF_app l m];constructor
  ·rintro⟨k,h1,j,h2,h3⟩;exact⟨j,⟨k,h1,h2⟩,h3⟩
  ·rintro⟨j,⟨k,h1,h2⟩,h3⟩;exact⟨k,h1,j,h2,h3⟩
def segN (has:KindP→Int→Prop)(c:CodeP)(back:Bool)(l:List PatP)(n a b:Nat):Prop:=if back then SegB has c back (l.drop (l.length-n)) a b else SegF has c back (l.take n) a b
def ordP (back:Bool)(l:List PatP):List PatP:=if back then l.reverse else l
theorem ordP_len (l:List PatP):(ordP back l).length=l.length:=by unfold ordP;split<;>simp
theorem segN_zero {l:List PatP}{a:Nat}:segN has c back l 0 a a:=by
 unfold segN;split
 ·simp[SegB]
 ·simp[SegF]
theorem segN_all {l:List PatP}{a b:Nat}:segN has c back l l.length a b↔Seg has c back (.cat l) a b:=by
 unfold segN;simp only[Seg,Nat.sub_self,List.drop_zero,List.take_length]
theorem segN_succ {l:List PatP}{n:Nat}{x:PatP}{a m b:Nat}(hx:(ordP back l)[n]?=some x)(h1:segN has c back l n a m)(h2:Seg has c back x m b):segN has c back l (n+1) a b:=by
 unfold segN at h1 ⊢;unfold ordP at hx;by_cases hb:back=true
 ·rw[if_pos hb]at h1 hx ⊢;have hn:n<l.length:=by have:=(List.getElem?_eq_some_iff.1 hx).1;rw[List.length_reverse]at this;exact this
  rw[List.getElem?_reverse hn]at hx;have hlt:l.length-(n+1)<l.length:=by omega
  have e:l.drop (l.length-(n+1))=x::l.drop (l.length-n):=by
   rw[List.drop_eq_getElem_cons hlt];have e1:l.length-(n+1)+1=l.length-n:=by omega
   rw[e1];congr 1;have e2:l.length-1-n=l.length-(n+1):=by omega
   rw[e2,List.getElem?_eq_getElem hlt]at hx;exact Option.some.inj hx
  rw[e];simp only[SegB];exact⟨m,h1,h2⟩
 ·rw[if_neg hb]at h1 hx ⊢;have e:l.take (n+1)=l.take n++[x]:=by rw[List.take_add_one,hx];rfl
  rw[e,segF_app];exact⟨m,h1,b,h2,by simp[SegF]⟩
theorem segN_same {l:List PatP}{n a b:Nat}(hs:SameIn c c' a b)(h:segN has c back l n a b):segN has c' back l n a b:=by
 unfold segN at h ⊢;by_cases hb:back=true
 ·rw[if_pos hb]at h ⊢;exact segB_same _ a b hs h
 ·rw[if_neg hb]at h ⊢;exact segF_same _ a b hs h
end
end Cae
namespace Go.Proofs.YtledlfbbebodgaaGreatDoor
open Go.Vc Go.Proofs Go.RowKit Cae
attribute [local irreducible] wpL callK valK unitK runK Fun Sl Vc.Own vc vcOps opK pureK
theorem Ext.same {c c':CodeP}(h:Ext c c'){a b:Nat}(hb:b≤c.ins.length):SameIn c c' a b:=⟨fun k h1 h2=>by
 rw[List.getElem?_eq_getElem (show k<c.ins.length by omega)];exact h.ins k _ (List.getElem?_eq_getElem (by omega)),h.sets⟩
theorem NamV.kept {X Y X':Nat→Prop}{w w':World}{b:Nat}{nm:NamesP}(h:NamV X w b nm)(hk:Kept Y w w')(hY:∀i,Y i→X i)(hb:¬Y b)(hX:∀i,X' i→X i):NamV X' w' b nm:=by
 obtain⟨kvs,h2,h3⟩:=h;exact⟨kvs,h2.kept hk hb,h3.imp fun a b h=>⟨h.1,(h.2.1.kept hk hY).weaken hX,h.2.2⟩⟩
def PatCd (x:PatP):Prop:=PatOk x→wd x≤100000→∀(nm:NamesP),patS nm x=none→RightN nm→∀(B mb nb:Nat) (back:Bool) (X Z:Nat→Prop) (w:World) (c:CodeP) (v:Value),Mk B mb nb back X w c→(∀b,X b→(Z b∨b=mb∨B≤b)∧b<w.heap.size)→nb<mb→NamV (fun b=>Z b∨b=mb∨B≤b) w nb nm→PatV (fun b=>Z b∨b=mb∨B≤b) w v x→c.sets.length≤c.ins.length →
 Fun2 Tryz.prog 48 [.pointer (some ⟨mb,0,none⟩),v] w
  (fun r w'=>(∃c',Mk B mb nb back X w' c'∧Ext c c'∧c'.ins.length=c.ins.length+clen x∧Seg (hasN nm) c' back x c.ins.length c'.ins.length)∧Mst mb w w')
  (fun ce w'=>2000<c.ins.length+clen x∧ThrC 4 ce∧Mst mb w w')
theorem Mk.own {B mb nb:Nat}{back:Bool}{X Z:Nat→Prop}{w:World}{c:CodeP}{sv iv:Value}{us:List SV}(h:Mk B mb nb back X w c)(hM:MkB B mb nb back X w c sv iv us)(hX:∀b,X b→(Z b∨b=mb∨B≤b)∧b<w.heap.size){b:Nat}(hb:X b∨b=mb∨sv.ownBlock=some b∨iv.ownBlock=some b):(Z b∨b=mb∨B≤b)∧b<w.heap.size :=
 hb.elim (hX b) fun hb=>⟨.inr (h.mw ((mw_maker hM.1).2 hb)).1,(h.mw ((mw_maker hM.1).2 hb)).2⟩
theorem cd_one (k:KindP):PatCd (.one k):=by
 intro hok hpn nm hpat hr B mb nb back X Z w c v h hX hnb hN hV hsum;simp only[PatOk]at hok;simp only[PatV]at hV;obtain⟨xb,u,rfl,hxb,hB,hK⟩:=hV;obtain⟨kb,rfl,hkb⟩:=hK.ptr;have hpat:∃s,kindS nm k=.ok s:=by
  simp only[patS]at hpat;cases hk:kindS nm k with
  | ok s=>exact⟨s,rfl⟩
  | error e=>rw[hk]at hpat;cases hpat
 obtain⟨s,hs⟩:=hpat;have hst:=h.st;obtain⟨sv,iv,us,hM⟩:=hst;have hMB:=hM.1;have hlt:=h.lt;have hle:=h.le;have d0:w.cell? ⟨xb,0,none⟩=some (.int .i64 1):=hB.cell rfl;refine fun2_of_vc Tryz.func48 rfl (by kernel_rfl) [] rfl ?_;push_cast -dsimp(maxSteps:=4000000) [Tryz.ntmps48];push_cast -dsimp[d0];have d1:w.drew.cell? ⟨xb,1,none⟩=some (.pointer (some ⟨kb,0,none⟩)):=hB.drew.cell rfl
 have d2:w.drew.cell? ⟨mb,2,none⟩=some (.map (some nb)):=hMB.drew.cell rfl;refine wpL_drawN (fun w'=>Blk w' xb 39 [.int .i64 1,.pointer (some ⟨kb,0,none⟩),.slice none 0 0,.int .i64 0,.int .i64 0]∧Blk w' mb 115 [sv,iv,.map (some nb),.bool back]) mixed (by kernel_rfl) ⟨hB.drew,hMB.drew⟩ ?_;push_cast -dsimp[d1,d2]
 refine⟨fun w'' h=>by rw[h.1.cell (o:=1) rfl];exact rfl,fun w'' h=>by rw[h.2.cell (o:=2) rfl];exact rfl,?_⟩;have hbd:=below_drew w;refine callK_of (ckind_c k hok nm hr (fun b=>Z b∨b=mb∨B≤b) _ nb w.drew (hK.drew) (hN.below hbd)) ?_;rintro r w1 ⟨hR,hb1⟩;have hbw1:Below w.heap.size w w1:=hbd.trans (hb1.mono (Nat.le_refl _));have z1:=hbw1.size;unfold KindRes at hR;rw[hs]at hR
 obtain⟨kv,rfl,hkv,hka⟩:=hR;have hkr:=kindS_right hr hok hs;refine⟨⟨hB.below hbw1 hB.lt,hMB.below hbw1 hMB.lt⟩,?_⟩;obtain⟨ka,kc,rfl,hkc⟩:=hkv.shape;push_cast -dsimp;have h1:=h.below hbw1;have hM1:=hM.below hbw1;have k1:Mst mb w w1:=Mst.below hbw1 (by omega);refine callP_of (mtake_c h1 hM1 hsum s hkr _ (hkv.weaken (fun b hb=>h.own hM hX hb))) ?_ ?_
 ·rintro _ w2 ⟨hl,⟨c',i,hM2,hE,hlen,hins,hset⟩,k2⟩;push_cast -dsimp;refine⟨⟨c',hM2,hE,by simp only[clen];exact hlen,?_⟩,k1.trans k2⟩;simp only[Seg];refine⟨hlen,i,s,hins,hset,fun p=>?_⟩;unfold hasN;constructor
  ·intro hp;exact⟨s,hs,hp⟩
  ·rintro⟨t,ht,hp⟩;rw[hs]at ht;cases ht;exact hp
 ·rintro ce w2 ⟨hl,ht,k2⟩;push_cast -dsimp;exact⟨by simp only[clen];omega,ht,k1.trans k2⟩
end Go.Proofs.YtledlfbbebodgaaGreatDoor
end
section
namespace Cae
theorem mirPs_map:∀l:List PatP,mirPs l=l.map mirP
 | []=>rfl
 | x::l=>by rw[mirPs,mirPs_map l];rfl
theorem join_len2 (l:List (List UInt8))(sep:List UInt8):(Go.Lib.join l sep).length=sep.length*(l.length-1)+(l.map List.length).sum:=by
 cases l with
 | nil=>rfl
 | cons x r=>rw[Go.Lib.join_length];simp[Go.Lib.lens]
theorem inPar_len2 (b:Bool)(s:List UInt8):(inPar b s).length=s.length+if b then 2 else 0:=by
 unfold inPar;cases b<;>simp
mutual
theorem pt_mir:∀(x:PatP) (n:Nat),(patText (mirP x) n).length=(patText x n).length
 | .one k,n=>rfl
 | .any,n=>rfl
 | .edge,n=>rfl
 | .cat l,n=>by
  simp only[mirP,patText,inPar_len2,join_len2,texts_map,List.length_map,List.length_reverse,List.map_reverse,List.sum_reverse];have h:=pts_mir l 2;rw[texts_map,texts_map]at h;rw[h,mirPs_map,List.length_map]
 | .alt l,n=>by
  simp only[mirP,patText,inPar_len2,join_len2,texts_map,List.length_map];have h:=pts_mir l 1;rw[texts_map,texts_map]at h;rw[h,mirPs_map,List.length_map]
 | .many x lo hi,n=>by
  simp only[mirP,patText,List.length_append];rw[pt_mir x 2]
theorem pts_mir:∀(l:List PatP) (n:Nat),(patTexts (mirPs l) n).map List.length=(patTexts l n).map List.length
 | [],n=>rfl
 | x::l,n=>by
  simp only[mirPs,patTexts,List.map_cons];rw[pt_mir x n,pts_mir l n]
end
theorem patsOk_all:∀{l:List PatP},PatsOk l↔∀x∈l,PatOk x
 | []=>by simp[PatsOk]
 | x::l=>by simp only[PatsOk,patsOk_all (l:=l),List.forall_mem_cons]
mutual
theorem ok_mir:∀x:PatP,PatOk x→PatOk (mirP x)
 | .one k,h=>h
 | .any,h=>h
 | .edge,h=>h
 | .cat l,h=>by
  simp only[PatOk]at h;simp only[mirP,PatOk];have:=oks_mir l h;rw[patsOk_all]at this ⊢;intro y hy;exact this y (List.mem_reverse.1 hy)
 | .alt l,h=>by
  simp only[PatOk]at h;simp only[mirP,PatOk];exact oks_mir l h
 | .many x lo hi,h=>by
  simp only[PatOk]at h;simp only[mirP,PatOk];exact⟨ok_mir x h.1,h.2⟩
theorem oks_mir:∀l:List PatP,PatsOk l→PatsOk (mirPs l)
 | [],h=>h
 | x::l,h=>by
  simp only[PatsOk]at h;simp only[mirPs,PatsOk];exact⟨ok_mir x h.1,oks_mir l h.2⟩
end
theorem patsS_none {nm:NamesP}:∀{l:List PatP},patsS nm l=none↔∀x∈l,patS nm x=none
 | []=>by simp[patsS]
 | x::l=>by
  rw[patsS,List.forall_mem_cons,←patsS_none (l:=l)];cases patS nm x with
  | some e=>simp
  | none=>simp
mutual
theorem pat_mir {nm:NamesP}:∀x:PatP,patS nm x=none→patS nm (mirP x)=none
 | .one k,h=>h
 | .any,h=>h
 | .edge,h=>h
 | .cat l,h=>by
  simp only[patS]at h;simp only[mirP,patS];have:=pats_mir l h;rw[patsS_none]at this ⊢;intro y hy;exact this y (List.mem_reverse.1 hy)
 | .alt l,h=>by
  simp only[patS]at h;simp only[mirP,patS];exact pats_mir l h
 | .many x lo hi,h=>by
  simp only[patS]at h;simp only[mirP,patS];exact pat_mir x h
theorem pats_mir {nm:NamesP}:∀l:List PatP,patsS nm l=none→patsS nm (mirPs l)=none
 | [],h=>h
 | x::l,h=>by
  rw[patsS_none,List.forall_mem_cons]at h;rw[mirPs,patsS_none,List.forall_mem_cons];exact⟨pat_mir x h.1,patsS_none.1 (pats_mir l (patsS_none.2 h.2))⟩
end
theorem rulesS_none {nm:NamesP}:∀{l:List RuleP},rulesS nm l=none↔∀r∈l,patS nm r.before=none∧patS nm r.after=none
 | []=>by simp[rulesS]
 | r::l=>by
  rw[rulesS,List.forall_mem_cons,←rulesS_none (l:=l),ruleS];cases patS nm r.before with
  | some e=>simp
  | none =>
   cases patS nm r.after with
   | some e=>simp
   | none=>simp
end Cae
end
section
namespace Go.Proofs.YtledlfbbebodgaaGreatDoor
open Go.Vc Go.Proofs Go.RowKit Cae
attribute [local irreducible] wpL callK valK unitK runK Fun Sl Vc.Own vc vcOps opK pureK
theorem cloneP_c (vs:List Nat)(hl:vs.length<1000000000)(X:Nat→Prop)(v:Value)(w:World)(hv:Sl X 1 (En encP) w v vs) :
  Fun Tryz.prog 76 [v] w fun r w'=>Vc.Own w.heap.size 35 1 encP w' r vs∧Below w.heap.size w w':=by
 obtain⟨a,c,rfl,hc⟩:=hv.shape;refine fun_of_vc Tryz.func76 rfl (by kernel_rfl) [2] rfl ?_;push_cast -dsimp(maxSteps:=4000000) [Tryz.ntmps76];cases a with
 | none =>
  have:vs=[]:=by
   cases vs with
   | nil=>rfl
   | cons y ys=>obtain⟨b,o,h,_⟩:=hv.get (i:=0) (x:=y) rfl;cases h
  subst this;push_cast -dsimp[eq_3n];exact⟨Vc.Own.nil (enc:=encP) _ _ (fun _=>rfl) _,Below.refl _ _⟩
 | some ad =>
  push_cast -dsimp[eq_3s];refine rowK elI_37 rfl rfl (by omega) ?_;intro w1 hw1;have ho1:=hw1.own (base:=w.heap.size) (k:=1) (n:=0) (enc:=encP) (l:=[]) rfl rfl (fun _=>rfl) (Nat.le_refl _) (by omega);have sz1:=hw1.size;push_cast -dsimp
  refine appendAny (base:=w.heap.size) (enc:=encP) (ys:=vs) elI_37 ho1 (hv.below hw1.below) (fun n c h=>by cases h) encP_one (by simp only[List.length_nil];omega) (by omega) ?_;intro v' w2 ho2 hg2 hb2;rw[List.nil_append]at ho2;push_cast -dsimp;exact⟨ho2,hw1.below.trans hb2⟩
theorem cd_any:PatCd .any:=by
 intro hok hpn nm hpat hr B mb nb back X Z w c v h hX hnb hN hV hsum;simp only[PatV]at hV;obtain⟨xb,rfl,hxb,hB⟩:=hV;have hst:=h.st;obtain⟨sv,iv,us,hM⟩:=hst;have hlt:=h.lt;have hle:=h.le;have d0:w.cell? ⟨xb,0,none⟩=some (.int .i64 2):=hB.cell rfl;refine fun2_of_vc Tryz.func48 rfl (by kernel_rfl) [] rfl ?_;push_cast -dsimp(maxSteps:=4000000) [Tryz.ntmps48];push_cast -dsimp[d0]
 refine rowK elI_41 rfl rfl (by omega) ?_;intro w1 hw1;have z1:=hw1.size;have ho1:Vc.Own w.heap.size 46 2 encR w1 (.slice (some ⟨w.heap.size,0,none⟩) 1 1) [((0:Int),(1114111:Int))]:=hw1.own (by rfl) rfl (fun _=>rfl) (Nat.le_refl _) (by omega);have h1:=h.below hw1.below;have hM1:=hM.below hw1.below;have k1:Mst mb w w1:=Mst.below hw1.below (by omega);push_cast -dsimp
 refine callP_of (mtake_c h1 hM1 hsum [((0:Int),(1114111:Int))] (by decide) _ (?_:Sl _ 2 (En encR) w1 _ [((0:Int),(1114111:Int))])) ?_ ?_
 ·exact ho1.sl.weaken (fun b hb=>(h.own hM hX hb).2)
 ·rintro _ w2 ⟨hl,⟨c',i,hM2,hE,hlen,hins,hset⟩,k2⟩;push_cast -dsimp;refine⟨⟨c',hM2,hE,by simp only[clen];exact hlen,?_⟩,k1.trans k2⟩;simp only[Seg];exact⟨hlen,i,_,hins,hset,fun p hp0 hp1=>by simp[hasP];omega⟩
 ·rintro ce w2 ⟨hl,ht,k2⟩;push_cast -dsimp;exact⟨by simp only[clen];omega,ht,k1.trans k2⟩
theorem cd_edge:PatCd .edge:=by
 intro hok hpn nm hpat hr B mb nb back X Z w c v h hX hnb hN hV hsum;simp only[PatV]at hV;obtain⟨xb,rfl,hxb,hB⟩:=hV;have hnum:=h.num;have d0:w.cell? ⟨xb,0,none⟩=some (.int .i64 3):=hB.cell rfl;refine fun2_of_vc Tryz.func48 rfl (by kernel_rfl) [] rfl ?_;push_cast -dsimp(maxSteps:=4000000) [Tryz.ntmps48];push_cast -dsimp[d0];refine callP_of (add_c h (by omega) ⟨4,0,0⟩) ?_ ?_
 ·rintro _ w1 ⟨hl,rfl,hM1,k1⟩;push_cast -dsimp;refine⟨⟨_,hM1,Ext.push c _,by simp[CodeP.push,clen],?_⟩,k1⟩;simp only[Seg];refine⟨by simp[CodeP.push],?_⟩
  show (c.ins++[_])[c.ins.length]?=_
  rw[List.getElem?_append_right (Nat.le_refl _),Nat.sub_self];rfl
 ·rintro ce w1 ⟨hl,ht,k1⟩;push_cast -dsimp;exact⟨by simp only[clen];omega,ht,k1⟩
theorem cd_cat (l : List PatP) (hall : ∀ y ∈ l, PatCd y) : PatCd (.cat l) := by
  intro hok hpn nm hpat hr B mb nb back X Z w c v h hX hnb hN hV hsum
  simp only [PatOk] at hok
  simp only [patS] at hpat
  have hpl := patsS_none.1 hpat
  simp only [PatV] at hV
  obtain ⟨xb, psv, vs, rfl, hxb, hB, hs, hVl⟩ := hV
  have hvl := hVl.len
  have hpc := wd_in_cat (l := l)
  have hpc2 := hpc.2.1
  have hst := h.st
  obtain ⟨sv, iv, us, hM⟩ := hst
  have hMB := hM.1
  have hlt := h.lt
  have hle := h.le
  obtain ⟨pa, pc, rfl, hpcc⟩ := hs.shape
  have d0 : w.cell? ⟨xb, 0, none⟩ = some (.int .i64 4) := hB.cell rfl
  have d2 : w.cell? ⟨xb, 2, none⟩ = some (.slice pa vs.length pc) := hB.cell rfl
  refine fun2_of_vc Tryz.func48 rfl (by kernel_rfl) [] rfl ?_
  push_cast -dsimp (maxSteps := 4000000) [Tryz.ntmps48]
  push_cast -dsimp [d0, d2]
  refine callK_of (cloneP_c vs (by omega) _ _ w hs) ?_
  rintro cv w1 ⟨hC, hb1⟩
  have z1 := hb1.size
  have hcb := hC.block
  have hV1 := PatsV.below hVl hb1
  have e3 : w1.cell? ⟨mb, 3, none⟩ = some (.bool back) := (hMB.below hb1 hMB.lt).cell rfl
  cases back with
  | false =>
    obtain ⟨ca, cc, rfl⟩ := hC.slice
    push_cast -dsimp [e3]
    -- w1: the world; hC.sl: Sl of the parts (no block below w's is one of theirs); vs: the parts' pointers; false: back; hV1: PatsV of them; hb1: Below w w1
    have hbS := hb1
    have zS := hbS.size
    have hS := h.below hbS
    have kS : Mst mb w (w1) := Mst.below hbS (by omega)
    have hwS : ∀ i, Mw (w1) mb i → i < w.heap.size := fun i hi => by
      rcases kS.own i hi with h1 | h1
      · exact (h.mw h1).2
      · have h2 := (hS.mw hi).2
        have hN0 : ∀ j, Mw (w1) mb j → Mw w mb j := fun j hj => by
          rcases hj with hj | ⟨o, v, e1, e2⟩
          · exact .inl hj
          · refine .inr ⟨o, v, ?_, e2⟩
            rw [← hbS.cell (p := ⟨mb, o, none⟩) (by show mb < _; omega)]
            exact e1
        exact (h.mw (hN0 i hi)).2
    have hNS := hN.below hbS
    have hPl : vs.length = l.length := by simp [hvl]
    refine wpL_loop [8, 63, 64, 65, 66, 67, 68, 69, 70] (fun z wx => ∃ (i : Nat) (ci : CodeP), z 63 = .int .i64 i ∧ i ≤ l.length ∧ Mk B mb nb false X wx ci ∧ Ext c ci ∧ ci.ins.length = c.ins.length + clenL ((ordP false l).take i) ∧ segN (hasN nm) ci false l i c.ins.length ci.ins.length ∧ Mst mb (w1) wx) (fun z _ => l.length - (intOf (z 63)).toNat) ?_ ?_
    · exact ⟨0, c, rfl, Nat.zero_le _, hS, Ext.refl c, by simp [clenL], segN_zero, Mst.refl (by omega)⟩
    · intro z wx hI
      obtain ⟨i, ci, h63, hi, hMx, hEx, hlx, hsx, kx⟩ := hI
      have kxo := kx.out hS
      have zx := kx.kept.size
      push_cast -dsimp [h63]
      refine ⟨fun hlt => ?_, fun hge => ?_⟩
      · obtain ⟨y, hy, hym, _, _⟩ := lt_get (l := ordP false l) (i := i) (by rw [ordP_len]; omega)
        have hyl : y ∈ l := by unfold ordP at hym; split at hym <;> first | exact List.mem_reverse.1 hym | exact hym
        obtain ⟨u, hu, hVy⟩ := PatsV.nth (hV1) hy
        have hVx : PatV (fun b => Z b ∨ b = mb ∨ B ≤ b) wx (ptrP u) y := PatV.mono kxo (fun _ h => .inr h) (fun _ h => h) hVy
        have hNx : NamV (fun b => Z b ∨ b = mb ∨ B ≤ b) wx nb nm := NamV.kept hNS kxo (fun _ h => .inr h) (fun h => by rcases h with h | h <;> omega) (fun _ h => h)
        obtain ⟨b1, o, rfl, _, hcell⟩ := (Sl.kept (hC.sl) kx.kept (fun j hj => hwS j hj)).get hu
        have c0 : wx.cell? ⟨b1, o + i, none⟩ = some (.pointer (some ⟨u, 0, none⟩)) := by simpa [encP, ptrP] using hcell 0 _ rfl
        have hcl := clenL_take (ordP false l) i hy
        have hco : clenL (ordP false l) = clenL l := by unfold ordP; split <;> first | exact clenL_reverse l | rfl
        push_cast -dsimp [c0]
        refine ⟨⟨by omega, by omega⟩, ?_⟩
        refine callP_of (hall y hyl (patsOk_mem hok hyl) (by have := hpc.2.2 y hyl; omega) nm (hpl y hyl) hr B mb nb false X Z wx ci _ hMx (fun b hb => by have := hX b hb; exact ⟨this.1, by omega⟩) hnb hNx hVx (by have := hEx.sum; omega)) ?_ ?_
        · rintro _ wy ⟨⟨cy, hMy, hEy, hly, hsy⟩, ky⟩
          push_cast -dsimp
          refine ⟨⟨by omega, by omega⟩, ⟨i + 1, cy, rfl, by omega, hMy, hEx.trans hEy, by rw [hly, hlx, hcl.2]; omega, segN_succ hy (segN_same (hEy.same (Nat.le_refl _)) hsx) hsy, kx.trans ky⟩, by rw [h63]; simp only [intOf]; omega⟩
        · rintro ce wy ⟨hl2, ht, ky⟩
          push_cast -dsimp
          exact ⟨by simp only [clen]; omega, ht, (kS.trans kx).trans ky⟩
      · have hil : i = l.length := by omega
        subst hil
        rw [List.take_of_length_le (by rw [ordP_len]; exact Nat.le_refl _)] at hlx
        have hco : clenL (ordP false l) = clenL l := by unfold ordP; split <;> first | exact clenL_reverse l | rfl
        exact ⟨⟨ci, hMx, hEx, by simp only [clen]; omega, segN_all.1 hsx⟩, kS.trans kx⟩
  | true =>
    push_cast -dsimp [e3]
    refine callK_of (reverseP_c vs _ cv w1 (by omega) hC (by omega)) ?_
    rintro _ w2 ⟨hD, hk2⟩
    have hb2 : Below w.heap.size w w2 := hb1.trans (hk2.below (by omega) (fun i h => (hcb i h).1))
    have hV2 : PatsV (fun b => Z b ∨ b = mb ∨ B ≤ b) w2 vs.reverse l.reverse := PatsV.reverse (hVl.below hb2)
    obtain ⟨ca, cc, rfl⟩ := hD.slice
    push_cast -dsimp
    -- w2: the world; hD.sl: Sl of the parts (no block below w's is one of theirs); vs.reverse: the parts' pointers; true: back; hV2: PatsV of them; hb2: Below w w2
    have hbS := hb2
    have zS := hbS.size
    have hS := h.below hbS
    have kS : Mst mb w (w2) := Mst.below hbS (by omega)
    have hwS : ∀ i, Mw (w2) mb i → i < w.heap.size := fun i hi => by
      rcases kS.own i hi with h1 | h1
      · exact (h.mw h1).2
      · have h2 := (hS.mw hi).2
        have hN0 : ∀ j, Mw (w2) mb j → Mw w mb j := fun j hj => by
          rcases hj with hj | ⟨o, v, e1, e2⟩
          · exact .inl hj
          · refine .inr ⟨o, v, ?_, e2⟩
            rw [← hbS.cell (p := ⟨mb, o, none⟩) (by show mb < _; omega)]
            exact e1
        exact (h.mw (hN0 i hi)).2
    have hNS := hN.below hbS
    have hPl : vs.reverse.length = l.length := by simp [hvl]
    refine wpL_loop [8, 63, 64, 65, 66, 67, 68, 69, 70] (fun z wx => ∃ (i : Nat) (ci : CodeP), z 63 = .int .i64 i ∧ i ≤ l.length ∧ Mk B mb nb true X wx ci ∧ Ext c ci ∧ ci.ins.length = c.ins.length + clenL ((ordP true l).take i) ∧ segN (hasN nm) ci true l i c.ins.length ci.ins.length ∧ Mst mb (w2) wx) (fun z _ => l.length - (intOf (z 63)).toNat) ?_ ?_
    · exact ⟨0, c, rfl, Nat.zero_le _, hS, Ext.refl c, by simp [clenL], segN_zero, Mst.refl (by omega)⟩
    · intro z wx hI
      obtain ⟨i, ci, h63, hi, hMx, hEx, hlx, hsx, kx⟩ := hI
      have kxo := kx.out hS
      have zx := kx.kept.size
      push_cast -dsimp [h63]
      refine ⟨fun hlt => ?_, fun hge => ?_⟩
      · obtain ⟨y, hy, hym, _, _⟩ := lt_get (l := ordP true l) (i := i) (by rw [ordP_len]; omega)
        have hyl : y ∈ l := by unfold ordP at hym; split at hym <;> first | exact List.mem_reverse.1 hym | exact hym
        obtain ⟨u, hu, hVy⟩ := PatsV.nth (hV2) hy
        have hVx : PatV (fun b => Z b ∨ b = mb ∨ B ≤ b) wx (ptrP u) y := PatV.mono kxo (fun _ h => .inr h) (fun _ h => h) hVy
        have hNx : NamV (fun b => Z b ∨ b = mb ∨ B ≤ b) wx nb nm := NamV.kept hNS kxo (fun _ h => .inr h) (fun h => by rcases h with h | h <;> omega) (fun _ h => h)
        obtain ⟨b1, o, rfl, _, hcell⟩ := (Sl.kept (hD.sl) kx.kept (fun j hj => hwS j hj)).get hu
        have c0 : wx.cell? ⟨b1, o + i, none⟩ = some (.pointer (some ⟨u, 0, none⟩)) := by simpa [encP, ptrP] using hcell 0 _ rfl
        have hcl := clenL_take (ordP true l) i hy
        have hco : clenL (ordP true l) = clenL l := by unfold ordP; split <;> first | exact clenL_reverse l | rfl
        push_cast -dsimp [c0]
        refine ⟨⟨by omega, by omega⟩, ?_⟩
        refine callP_of (hall y hyl (patsOk_mem hok hyl) (by have := hpc.2.2 y hyl; omega) nm (hpl y hyl) hr B mb nb true X Z wx ci _ hMx (fun b hb => by have := hX b hb; exact ⟨this.1, by omega⟩) hnb hNx hVx (by have := hEx.sum; omega)) ?_ ?_
        · rintro _ wy ⟨⟨cy, hMy, hEy, hly, hsy⟩, ky⟩
          push_cast -dsimp
          refine ⟨⟨by omega, by omega⟩, ⟨i + 1, cy, rfl, by omega, hMy, hEx.trans hEy, by rw [hly, hlx, hcl.2]; omega, segN_succ hy (segN_same (hEy.same (Nat.le_refl _)) hsx) hsy, kx.trans ky⟩, by rw [h63]; simp only [intOf]; omega⟩
        · rintro ce wy ⟨hl2, ht, ky⟩
          push_cast -dsimp
          exact ⟨by simp only [clen]; omega, ht, (kS.trans kx).trans ky⟩
      · have hil : i = l.length := by omega
        subst hil
        rw [List.take_of_length_le (by rw [ordP_len]; exact Nat.le_refl _)] at hlx
        have hco : clenL (ordP true l) = clenL l := by unfold ordP; split <;> first | exact clenL_reverse l | rfl
        exact ⟨⟨ci, hMx, hEx, by simp only [clen]; omega, segN_all.1 hsx⟩, kS.trans kx⟩
theorem Mk.patch {B mb nb:Nat}{back:Bool}{X:Nat→Prop}{w w':World}{c:CodeP}{sv iv:Value}{us:List SV}{g k:Nat}{y:I3}(h:Mk B mb nb back X w c)(hM:MkB B mb nb back X w c sv iv us)(hg:iv.ownBlock=some g)(hO:Vc.Own B 109 3 encIn w' iv (c.ins.set k y))(hk:Kept (·=g) w w') :
  Mk B mb nb back X w' ⟨c.sets,c.ins.set k y⟩∧Mst mb w w':=by
 obtain⟨hB,hO1,hO2,hul,hs1,hs2,hs3,hus⟩:=hM;have hgm:mb≠g:=fun e=>hs2 (by rw[hg,e]);have hB':=hB.kept hk (fun hh=>hgm hh);have hO1':=hO1.keptX hk (fun i hi hh=>hs3 i hi (by rw[hg,hh]));have hz:=hk.size
 refine⟨⟨⟨sv,iv,us,hB',hO1',hO,hul,hs1,hs2,hs3,fun i u s h1 h2=>(hus i u s h1 h2).kept hk (fun i hi=>.inr (.inr (.inr (by rw[hg,hi]))))⟩,h.lt,by have:=h.le;omega,h.few,by rw[List.length_set];exact h.num,by rw[List.length_set];exact h.sum⟩,⟨hk.weaken (fun i _ hi=>(mw_maker hB).2 (.inr (.inr (by rw[hg,hi])))),fun i hi=>?_⟩⟩;have:=(mw_maker hB').1 hi;exact .inl ((mw_maker hB).2 this)
theorem Mk.off {B mb nb:Nat}{back:Bool}{X:Nat→Prop}{w:World}{c:CodeP}(h:Mk B mb nb back X w c){α:Type}{base k:Nat}{e:TypeId}{enc:α→List Value}{v:Value}{l:List α}(hO:Vc.Own base e k enc w v l)(h1:e≠41)(h2:e≠109)(hb:mb<base):∀g,v.ownBlock=some g→¬Mw w mb g:=by
 intro g hg hm;obtain⟨sv,iv,us,hB,hO1,hO2,_⟩:=h.st;rcases(mw_maker hB).1 hm with hm|hm|hm
 ·have:=hO.block g hg;omega
 ·exact ownNe hO1 hO (fun e=>h1 e.symm) g hm hg
 ·exact ownNe hO2 hO (fun e=>h2 e.symm) g hm hg
theorem Mk.weak {B mb nb:Nat}{back:Bool}{X X':Nat→Prop}{w:World}{c:CodeP}(h:Mk B mb nb back X w c)(hX:∀b,X' b→X b):Mk B mb nb back X' w c:=by
 obtain⟨sv,iv,us,hB,hO1,hO2,hul,hs1,hs2,hs3,hus⟩:=h.st;exact⟨⟨sv,iv,us,hB,hO1,hO2,hul,hs1,hs2,hs3,fun i u s h1 h2=>(hus i u s h1 h2).weaken (fun b hb=>hb.imp (hX b) id)⟩,h.lt,h.le,h.few,h.num,h.sum⟩
theorem Mk.thru {B mb nb:Nat}{back:Bool}{X:Nat→Prop}{w w':World}{c:CodeP}{ov ov':Value}(h:Mk B mb nb back (fun b=>X b∨ov.ownBlock=some b) w c)(ho:∀g,ov.ownBlock=some g→¬Mw w mb g)(hk:Kept (fun j=>ov.ownBlock=some j) w w')(hn:∀g,ov'.ownBlock=some g→ov.ownBlock=some g∨w.heap.size≤g) :
  Mk B mb nb back (fun b=>X b∨ov'.ownBlock=some b) w' c:=by
 obtain⟨sv,iv,us,hB,hO1,hO2,hul,hs1,hs2,hs3,hus⟩:=h.st;have hz:=hk.size;refine⟨⟨sv,iv,us,hB.kept hk (fun hh=>ho _ hh ((mw_maker hB).2 (.inl rfl))),hO1.keptX hk (fun g hg hh=>ho g hh ((mw_maker hB).2 (.inr (.inl hg)))),hO2.keptX hk (fun g hg hh=>ho g hh ((mw_maker hB).2 (.inr (.inr hg)))),hul,hs1,hs2,hs3,fun i u s h1 h2=>?_⟩,h.lt,by have:=h.le;omega,h.few,h.num,h.sum⟩
 refine(hus i u s h1 h2).moved (fun _=>by simp[encR]) hk (fun i hi=>.inl (.inr hi)) (fun b hb=>?_);rcases hb with (hb|hb)|hb|hb|hb
 ·exact .inl (.inl (.inl hb))
 ·rcases hn b hb with h3|h3
  ·exact .inl (.inl (.inr h3))
  ·exact .inr h3
 ·exact .inl (.inr (.inl hb))
 ·exact .inl (.inr (.inr (.inl hb)))
 ·exact .inl (.inr (.inr (.inr hb)))
theorem Mst.thru {mb:Nat}{w w1 w2:World}(h:Mst mb w w1)(hk:Kept (fun i=>w.heap.size≤i) w1 w2)(hlt:mb<w.heap.size):Mst mb w w2 :=
 ⟨h.kept.trans hk (fun i hi hm=>by omega),fun i hi=>h.own i (by
  rcases hi with hi|⟨o,v,e1,e2⟩
  ·exact .inl hi
  ·refine .inr ⟨o,v,?_,e2⟩;have hb:=hk.block mb (by have:=h.kept.size;omega) (by omega);have:w2.cell? ⟨mb,o,none⟩=w1.cell? ⟨mb,o,none⟩:=by simp only[World.cell?,hb]
   rw[←this];exact e1)⟩
theorem Ext.set {a b:CodeP}{k:Nat}{y:I3}(h:Ext a b)(hk:a.ins.length≤k):Ext a ⟨b.sets,b.ins.set k y⟩:=⟨fun j x hx=>by
 show (b.ins.set k y)[j]?=some x
 have hj:=(List.getElem?_eq_some_iff.1 hx).1;rw[List.getElem?_set,if_neg (by omega)];exact h.ins j x hx,h.sets,by have:=h.sum;simp only[List.length_set];omega⟩
theorem SameIn.set {a b:CodeP}{p q k:Nat}{y:I3}(h:SameIn a b p q)(hk:k<p∨q≤k):SameIn a ⟨b.sets,b.ins.set k y⟩ p q:=⟨fun j h1 h2=>by
 show (b.ins.set k y)[j]?=_
 rw[List.getElem?_set,if_neg (by omega)];exact h.1 j h1 h2,h.2⟩
theorem SameIn.push {a b:CodeP}{p q:Nat}{x:I3}(h:SameIn a b p q)(hq:q≤b.ins.length):SameIn a (CodeP.push b x) p q:=⟨fun j h1 h2=>by
 show (b.ins++[x])[j]?=_
 rw[List.getElem?_append_left (by omega)];exact h.1 j h1 h2,h.2⟩
theorem push_at (c:CodeP)(x:I3):(CodeP.push c x).ins[c.ins.length]?=some x:=by
 show (c.ins++[x])[c.ins.length]?=_
 rw[List.getElem?_append_right (Nat.le_refl _),Nat.sub_self];rfl
theorem push_len (c:CodeP)(x:I3):(CodeP.push c x).ins.length=c.ins.length+1:=by simp[CodeP.push]
theorem cd_alt (l : List PatP) (hne : l ≠ []) (hall : ∀ y ∈ l, PatCd y) : ∀ (hok : PatsOk l) (hpn : ∀ y ∈ l, wd y ≤ 100000) (hpl : l.length ≤ 100000) (nm : NamesP) (hpat : ∀ y ∈ l, patS nm y = none) (hr : RightN nm) (B mb nb : Nat) (back : Bool) (X Z : Nat → Prop) (w : World) (c : CodeP) (v : Value) (vs : List Nat) (h : Mk B mb nb back X w c) (hX : ∀ b, X b → (Z b ∨ b = mb ∨ B ≤ b) ∧ b < w.heap.size) (hnb : nb < mb) (hN : NamV (fun b => Z b ∨ b = mb ∨ B ≤ b) w nb nm) (hs : Sl (fun b => Z b ∨ b = mb ∨ B ≤ b) 1 (En encP) w v vs) (hV : PatsV (fun b => Z b ∨ b = mb ∨ B ≤ b) w vs l) (hsum : c.sets.length ≤ c.ins.length),
    Fun2 Tryz.prog 78 [.pointer (some ⟨mb, 0, none⟩), v] w
    (fun r w' => (∃ c', Mk B mb nb back X w' c' ∧ Ext c c' ∧ c'.ins.length = c.ins.length + clenA l ∧ SegA (hasN nm) c' back l c.ins.length c'.ins.length) ∧ Mst mb w w')
    (fun ce w' => 2000 < c.ins.length + clenA l ∧ ThrC 4 ce ∧ Mst mb w w') := by
  intro hok hpn hpl nm hpat hr B mb nb back X Z w c v vs h hX hnb hN hs hV hsum
  have hvl := hV.len
  have hlt := h.lt
  have hle := h.le
  obtain ⟨pa, pc, rfl, hpcc⟩ := hs.shape
  have hlpos : 0 < l.length := List.length_pos_iff.2 hne
  refine fun2_of_vc Tryz.func78 rfl (by kernel_rfl) [] rfl ?_
  push_cast -dsimp (maxSteps := 4000000) [Tryz.ntmps78]
  refine wpL_loop [4, 5, 6, 7, 12, 13, 14, 15, 16, 17, 18, 19, 20, 21, 22, 23, 24, 25, 26, 27, 28, 29, 30, 31, 32, 33, 34, 35, 36, 37, 38, 39, 40, 41, 42, 43, 44, 45, 46, 47, 48, 49, 50, 51, 52, 53, 54, 55, 56, 57] (fun z wx => ∃ (i : Nat) (ci : CodeP) (js : List Nat) (ov : Value), z 12 = .int .i64 i ∧ z 4 = ov ∧ i < l.length ∧ Mk B mb nb back (fun b => X b ∨ ov.ownBlock = some b) wx ci ∧ Ext c ci ∧ ci.ins.length + clenA (l.drop i) = c.ins.length + clenA l ∧ SegJ (hasN nm) ci back (l.take i) c.ins.length js ci.ins.length ∧ js.length = i ∧ Vc.Own w.heap.size 3 1 encN wx ov js ∧ Mst mb w wx) (fun z _ => l.length - (intOf (z 12)).toNat) ?_ ?_
  · exact ⟨0, c, [], _, rfl, rfl, hlpos, h.weak (fun b hb => hb.elim id (fun h => by cases h)), Ext.refl c, by simp, by simp [SegJ], rfl, Vc.Own.nil (enc := encN) _ _ (fun _ => rfl) _, Mst.refl (by omega)⟩
  · intro z wx hI
    obtain ⟨i, ci, js, ov, h12, h4, hi, hMx, hEx, hlx, hJx, hjl, hOx, kx⟩ := hI
    have kxo := kx.out h
    have zx := kx.kept.size
    have hob := hOx.block
    have hoff := hMx.off hOx (by decide) (by decide) (by omega)
    obtain ⟨y, hy, hym, hyd, hyt⟩ := lt_get (l := l) (i := i) hi
    obtain ⟨u, hu, hVy⟩ := PatsV.nth hV hy
    obtain ⟨b1, o, rfl, _, hcell⟩ := (hs.kept kxo (fun _ h => .inr h)).get hu
    have c0 : wx.cell? ⟨b1, o + i, none⟩ = some (.pointer (some ⟨u, 0, none⟩)) := by simpa [encP, ptrP] using hcell 0 _ rfl
    have hcl : clenA (l.drop i) = if l.drop (i + 1) = [] then clen y else clen y + 2 + clenA (l.drop (i + 1)) := by rw [hyd, clenA]
    have hXx : ∀ b, (X b ∨ ov.ownBlock = some b) → (Z b ∨ b = mb ∨ B ≤ b) ∧ b < wx.heap.size := fun b hb => by
      rcases hb with hb | hb
      · have := hX b hb; exact ⟨this.1, by omega⟩
      · have := hob b hb; exact ⟨.inr (.inr (by omega)), this.2⟩
    have hsx : ci.sets.length ≤ ci.ins.length := by have := hEx.sum; omega
    have hgo : ∀ (w1 : World), Mst mb wx w1 → NamV (fun b => Z b ∨ b = mb ∨ B ≤ b) w1 nb nm ∧ PatV (fun b => Z b ∨ b = mb ∨ B ≤ b) w1 (ptrP u) y := fun w1 k1 => by
      have ko := kxo.trans (k1.out hMx) (fun _ _ h => h)
      exact ⟨NamV.kept hN ko (fun _ h => .inr h) (fun h => by rcases h with h | h <;> omega) (fun _ h => h), PatV.mono ko (fun _ h => .inr h) (fun _ h => h) hVy⟩
    push_cast -dsimp [h12, h4, c0]
    refine ⟨fun hilt => ⟨⟨by omega, by omega⟩, ⟨by omega, by omega⟩, fun hlast => ?_, fun hnl => ?_⟩, fun hge => by omega⟩
    · -- the last part
      have hlast' : i + 1 = l.length := by omega
      have hd0 : l.drop (i + 1) = [] := List.drop_eq_nil_of_le (by omega)
      rw [if_pos hd0] at hcl
      refine callP_of (hall y hym (patsOk_mem hok hym) (hpn y hym) nm (hpat y hym) hr B mb nb back _ Z wx ci _ hMx hXx hnb (hgo wx (Mst.refl (by omega))).1 (hgo wx (Mst.refl (by omega))).2 hsx) ?_ ?_
      · rintro _ wy ⟨⟨cy, hMy, hEy, hly, hsy⟩, ky⟩
        have zy := ky.kept.size
        have hOy := hOx.keptX ky.kept (fun g hg hm => hoff g hg hm)
        have hJy : SegJ (hasN nm) cy back (l.take i) c.ins.length js ci.ins.length := segJ_same _ _ _ _ (hEy.same (Nat.le_refl _)) hJx
        have hjge := (segJ_ge _ _ _ _ hJy).2
        obtain ⟨oa, oc, rfl⟩ := hOx.slice
        have e : ∃ e, e = cy.ins.length := ⟨_, rfl⟩
        obtain ⟨e, he⟩ := e
        have hXy : ∀ b, (X b ∨ (Value.slice oa js.length oc).ownBlock = some b) → (Z b ∨ b = mb ∨ B ≤ b) ∧ b < wy.heap.size := fun b hb => by
          have := hXx b hb; exact ⟨this.1, by omega⟩
        push_cast -dsimp
        refine wpL_loop [9, 60, 61, 62, 63, 64, 65, 66, 67, 68, 69, 70, 71, 72, 73, 74] (fun z wz => ∃ (t : Nat) (ct : CodeP), z 60 = .int .i64 t ∧ t ≤ js.length ∧ Mk B mb nb back (fun b => X b ∨ (Value.slice oa js.length oc).ownBlock = some b) wz ct ∧ ToldC cy ct (js.take t) (fun x => ⟨x.op, (e : Int), x.b⟩) ∧ Vc.Own w.heap.size 3 1 encN wz (.slice oa js.length oc) js ∧ Mst mb w wz) (fun z _ => js.length - (intOf (z 60)).toNat) ?_ ?_
        · exact ⟨0, cy, rfl, Nat.zero_le _, hMy, ToldC.nil cy _, hOy, kx.trans ky⟩
        · intro z wz hI
          obtain ⟨t, ct, h60, ht, hMz, hTz, hOz, kz⟩ := hI
          have zz := kz.kept.size
          have hoffz := hMz.off hOz (by decide) (by decide) (by omega)
          have hlz := hTz.len
          push_cast -dsimp [h60]
          refine ⟨fun hlt2 => ?_, fun hge => ?_⟩
          · obtain ⟨k, hk, hkm, _, hkt⟩ := lt_get (l := js) (i := t) (by omega)
            obtain ⟨bj, oj, hej, _, hcj⟩ := hOz.sl.get hk
            cases hej
            have cj : wz.cell? ⟨bj, oj + t, none⟩ = some (.int .i64 (k : Int)) := by simpa [encN] using hcj 0 _ rfl
            have hkl : k < ct.ins.length := by have := hjge k hkm; have := hly; omega
            obtain ⟨xk, hxk, _⟩ := lt_get (l := ct.ins) (i := k) hkl
            push_cast -dsimp [cj]
            refine ⟨⟨by omega, by omega⟩, ?_⟩
            -- wz: the world; hMz: Mk at it; ct: the code; k: the index; hxk: what stands there (ct.ins[k]? = some x); xk: x; 1: the field; (⟨xk.op, (ct.ins.length : Int), xk.b⟩ : I3): what it becomes
            have hstP := (hMz).st
            obtain ⟨svP, ivP, usP, hMP⟩ := hstP
            have hOP0 := hMP.2.2.1
            obtain ⟨iaP, icP, rfl⟩ := hOP0.slice
            have hgP := hOP0.sl.get hxk
            obtain ⟨gP, oP, eP, _, _⟩ := hgP
            subst eP
            have ho0P : oP = 0 := Vc.Own.at0 hOP0
            subst ho0P
            have hltP := (List.getElem?_eq_some_iff.1 hxk).1
            have hnumP := (hMz).num
            have f1P : (wz).drew.cell? ⟨mb, 1, none⟩ = some (.slice (some ⟨gP, 0, none⟩) (ct).ins.length icP) := hMP.1.drew.cell rfl
            refine wpL_lastN (fun w' => Blk w' mb 115 [svP, .slice (some ⟨gP, 0, none⟩) (ct).ins.length icP, .map (some nb), .bool back]) mixed (by kernel_rfl) (by simp) hMP.1.drew ?_
            push_cast -dsimp [f1P]
            refine ⟨fun w'' h => by rw [h.cell (o := 1) rfl]; exact rfl, ?_⟩
            have hbdP := below_drew (wz)
            refine callK_of (here_c ((hMz).below hbdP)) ?_
            rintro _ _ ⟨rfl, rfl⟩
            refine ⟨hMP.1.drew, ?_⟩
            push_cast -dsimp
            refine ⟨⟨by omega, by omega⟩, ?_⟩
            have hOdP : Vc.Own B 109 3 encIn (wz).drew (.slice (some ⟨gP, 0, none⟩) (ct).ins.length icP) (ct).ins := hOP0.keptX ((Kept.refl (fun _ => False) (wz)).drew) (fun _ _ h => h)
            refine storeOwnF (i := k) (f := 1) (x := xk) (y := (⟨xk.op, (ct.ins.length : Int), xk.b⟩ : I3)) hOdP rfl hxk (by decide) rfl rfl ?_
            intro wP hOP hkP zP
            have hpP := Mk.patch ((hMz).below hbdP) (hMP.below hbdP) rfl hOP hkP
            obtain ⟨hMkP, hstepP⟩ := hpP
            have hstP : Mst mb (wz) wP := (Mst.below hbdP (by have := (hMz).lt; have := (hMz).le; omega)).trans hstepP
            refine ⟨trivial, ?_⟩
            push_cast -dsimp
            have hTn := ToldC.step (g := fun x => ⟨x.op, (e : Int), x.b⟩) (fun x => rfl) hTz hxk
            rw [← hkt] at hTn
            have hec : (e : Int) = (ct.ins.length : Int) := by rw [he, hlz]
            rw [hec] at hTn hTz
            refine ⟨⟨by omega, by omega⟩, ⟨t + 1, _, rfl, by omega, hMkP, by rw [hec]; exact hTn, hOz.keptX hstP.kept (fun g hg hm => hoffz g hg hm), kz.trans hstP⟩, by rw [h60]; simp only [intOf]; omega⟩
          · have htl : t = js.length := by omega
            rw [htl, List.take_length] at hTz
            have hll : l.take i ++ [y] = l := by rw [← hyt, List.take_of_length_le (by omega)]
            have hA : SegA (hasN nm) ct back l c.ins.length e := by
              have := segJ_alt (y := y) (l.take i) c.ins.length ci.ins.length e js hTz hJy (by rw [he]; exact hsy) (fun k hk => by have := hjge k hk; omega)
              rw [hll] at this
              exact this
            have hcl2 : ∀ k ∈ js, c.ins.length ≤ k := fun k hk => by have := (hjge k hk).1; omega
            refine ⟨⟨ct, hMz.weak (fun b hb => .inl hb), ⟨fun k x hx => ?_, fun k s hs => ?_, ?_⟩, by rw [hlz]; omega, by rw [hlz, ← he]; exact hA⟩, kz⟩
            · have hk := (List.getElem?_eq_some_iff.1 hx).1
              rw [hTz.ins k, if_neg (fun hm => by have := hcl2 k hm; omega)]
              exact (hEx.trans hEy).ins k x hx
            · rw [hTz.sets]; exact (hEx.trans hEy).sets k s hs
            · have := (hEx.trans hEy).sum
              rw [hTz.sets, hlz]; exact this
      · rintro ce wy ⟨hl2, ht, ky⟩
        push_cast -dsimp
        exact ⟨by omega, ht, kx.trans ky⟩
    · -- one more part
      have hd1 : l.drop (i + 1) ≠ [] := by intro hd; have := congrArg List.length hd; simp at this; omega
      rw [if_neg hd1] at hcl
      refine callP_of (add_c hMx (by omega) ⟨2, 0, 0⟩) ?_ ?_
      · rintro _ w1 ⟨hl1, rfl, hM1, k1⟩
        have z1 := k1.kept.size
        have hx1 := push_at ci ⟨2, 0, 0⟩
        have hn1 := push_len ci ⟨2, 0, 0⟩
        push_cast -dsimp
        -- w1: the world; hM1: Mk at it; (CodeP.push ci ⟨2, 0, 0⟩): the code; ci.ins.length: the index; hx1: what stands there ((CodeP.push ci ⟨2, 0, 0⟩).ins[ci.ins.length]? = some x); (⟨2, 0, 0⟩ : I3): x; 1: the field; (⟨2, ((CodeP.push ci ⟨2, 0, 0⟩).ins.length : Int), 0⟩ : I3): what it becomes
        have hstP := (hM1).st
        obtain ⟨svP, ivP, usP, hMP⟩ := hstP
        have hOP0 := hMP.2.2.1
        obtain ⟨iaP, icP, rfl⟩ := hOP0.slice
        have hgP := hOP0.sl.get hx1
        obtain ⟨gP, oP, eP, _, _⟩ := hgP
        subst eP
        have ho0P : oP = 0 := Vc.Own.at0 hOP0
        subst ho0P
        have hltP := (List.getElem?_eq_some_iff.1 hx1).1
        have hnumP := (hM1).num
        have f1P : (w1).drew.cell? ⟨mb, 1, none⟩ = some (.slice (some ⟨gP, 0, none⟩) ((CodeP.push ci ⟨2, 0, 0⟩)).ins.length icP) := hMP.1.drew.cell rfl
        refine wpL_lastN (fun w' => Blk w' mb 115 [svP, .slice (some ⟨gP, 0, none⟩) ((CodeP.push ci ⟨2, 0, 0⟩)).ins.length icP, .map (some nb), .bool back]) mixed (by kernel_rfl) (by simp) hMP.1.drew ?_
        push_cast -dsimp [f1P]
        refine ⟨fun w'' h => by rw [h.cell (o := 1) rfl]; exact rfl, ?_⟩
        have hbdP := below_drew (w1)
        refine callK_of (here_c ((hM1).below hbdP)) ?_
        rintro _ _ ⟨rfl, rfl⟩
        refine ⟨hMP.1.drew, ?_⟩
        push_cast -dsimp
        refine ⟨⟨by omega, by omega⟩, ?_⟩
        have hOdP : Vc.Own B 109 3 encIn (w1).drew (.slice (some ⟨gP, 0, none⟩) ((CodeP.push ci ⟨2, 0, 0⟩)).ins.length icP) ((CodeP.push ci ⟨2, 0, 0⟩)).ins := hOP0.keptX ((Kept.refl (fun _ => False) (w1)).drew) (fun _ _ h => h)
        refine storeOwnF (i := ci.ins.length) (f := 1) (x := (⟨2, 0, 0⟩ : I3)) (y := (⟨2, ((CodeP.push ci ⟨2, 0, 0⟩).ins.length : Int), 0⟩ : I3)) hOdP rfl hx1 (by decide) rfl rfl ?_
        intro wP hOP hkP zP
        have hpP := Mk.patch ((hM1).below hbdP) (hMP.below hbdP) rfl hOP hkP
        obtain ⟨hMkP, hstepP⟩ := hpP
        have hstP : Mst mb (w1) wP := (Mst.below hbdP (by have := (hM1).lt; have := (hM1).le; omega)).trans hstepP
        refine ⟨trivial, ?_⟩
        push_cast -dsimp
        have hc1 : ∃ c1 : CodeP, c1 = ⟨(CodeP.push ci ⟨2, 0, 0⟩).sets, (CodeP.push ci ⟨2, 0, 0⟩).ins.set ci.ins.length ⟨2, ((CodeP.push ci ⟨2, 0, 0⟩).ins.length : Int), 0⟩⟩ := ⟨_, rfl⟩
        obtain ⟨c1, hc1⟩ := hc1
        rw [← hc1] at hMkP
        have hn1' : c1.ins.length = ci.ins.length + 1 := by rw [hc1]; simp [CodeP.push]
        have hk1 : c1.ins[ci.ins.length]? = some ⟨2, ((ci.ins.length + 1 : Nat) : Int), 0⟩ := by
          rw [hc1]
          show ((CodeP.push ci ⟨2, 0, 0⟩).ins.set ci.ins.length _)[ci.ins.length]? = _
          rw [List.getElem?_set, if_pos rfl, if_pos (by omega), hn1]
        have hE1 : Ext ci c1 := by rw [hc1]; exact (Ext.push ci _).set (Nat.le_refl _)
        have hsets1 : c1.sets = ci.sets := by rw [hc1]; rfl
        have kP : Mst mb wx wP := k1.trans hstP
        have zP' := kP.kept.size
        have hgP' := hgo wP kP
        refine callP_of (hall y hym (patsOk_mem hok hym) (hpn y hym) nm (hpat y hym) hr B mb nb back _ Z wP c1 _ hMkP (fun b hb => by have := hXx b hb; exact ⟨this.1, by omega⟩) hnb hgP'.1 hgP'.2 (by rw [hsets1]; omega)) ?_ ?_
        · rintro _ wq ⟨⟨c2, hM2, hE2, hl2, hs2⟩, k2⟩
          have kq := kP.trans k2
          have zq := kq.kept.size
          push_cast -dsimp
          have hsum2 : c2.sets.length ≤ c2.ins.length := by have := hE2.sum; rw [hsets1] at this; omega
          refine callP_of (add_c hM2 (by omega) ⟨3, 0, 0⟩) ?_ ?_
          · rintro _ w3 ⟨hl3, rfl, hM3, k3⟩
            have kx3 := kq.trans k3
            have z3 := kx3.kept.size
            have hO3 := hOx.keptX kx3.kept (fun g hg hm => hoff g hg hm)
            have hoff3 := hM3.off hO3 (by decide) (by decide) (by omega)
            have hn3 := push_len c2 ⟨3, 0, 0⟩
            push_cast -dsimp
            refine rowK elI_53 rfl rfl (by omega) ?_
            intro w4 hw4
            have z4 := hw4.size
            have hM4 := hM3.below hw4.below
            have hO4 := hO3.new hw4
            have hoff4 := hM4.off hO4 (by decide) (by decide) (by omega)
            push_cast -dsimp
            refine appendK2 (base := w.heap.size) [c2.ins.length] (enc := encN) elI_53 hO4 (by rfl) (fun j u hu => by rw [Nat.zero_add]; exact hw4.cell hu) (by simp [encN, Value.oneCell']) (by simp only [List.length_cons, List.length_nil]; omega) (by omega) ?_
            intro v5 w5 hO5 hg5 hn5
            have hk45 : Kept (fun j => ov.ownBlock = some j) w4 w5 := Kept.grown hg5 (fun _ h => h)
            have z5 := hk45.size
            have hM5 := hM4.thru hoff4 hk45 hn5
            have kx5 : Mst mb w w5 := (kx.trans (kx3.trans (Mst.below hw4.below (by have := hM3.lt; have := hM3.le; omega)))).thru (hk45.weaken (fun j _ h => (hob j h).1)) (by omega)
            have hoff5 := hM5.off hO5 (by decide) (by decide) (by omega)
            have hk5 : (CodeP.push c2 ⟨3, 0, 0⟩).ins[ci.ins.length]? = some ⟨2, ((ci.ins.length + 1 : Nat) : Int), 0⟩ := (Ext.push c2 _).ins _ _ (hE2.ins _ _ hk1)
            push_cast -dsimp
            -- w5: the world; hM5: Mk at it; (CodeP.push c2 ⟨3, 0, 0⟩): the code; ci.ins.length: the index; hk5: what stands there ((CodeP.push c2 ⟨3, 0, 0⟩).ins[ci.ins.length]? = some x); (⟨2, ((ci.ins.length + 1 : Nat) : Int), 0⟩ : I3): x; 2: the field; (⟨2, ((ci.ins.length + 1 : Nat) : Int), ((CodeP.push c2 ⟨3, 0, 0⟩).ins.length : Int)⟩ : I3): what it becomes
            have hstP := (hM5).st
            obtain ⟨svP, ivP, usP, hMP⟩ := hstP
            have hOP0 := hMP.2.2.1
            obtain ⟨iaP, icP, rfl⟩ := hOP0.slice
            have hgP := hOP0.sl.get hk5
            obtain ⟨gP, oP, eP, _, _⟩ := hgP
            subst eP
            have ho0P : oP = 0 := Vc.Own.at0 hOP0
            subst ho0P
            have hltP := (List.getElem?_eq_some_iff.1 hk5).1
            have hnumP := (hM5).num
            have f1P : (w5).drew.cell? ⟨mb, 1, none⟩ = some (.slice (some ⟨gP, 0, none⟩) ((CodeP.push c2 ⟨3, 0, 0⟩)).ins.length icP) := hMP.1.drew.cell rfl
            refine wpL_lastN (fun w' => Blk w' mb 115 [svP, .slice (some ⟨gP, 0, none⟩) ((CodeP.push c2 ⟨3, 0, 0⟩)).ins.length icP, .map (some nb), .bool back]) mixed (by kernel_rfl) (by simp) hMP.1.drew ?_
            push_cast -dsimp [f1P]
            refine ⟨fun w'' h => by rw [h.cell (o := 1) rfl]; exact rfl, ?_⟩
            have hbdP := below_drew (w5)
            refine callK_of (here_c ((hM5).below hbdP)) ?_
            rintro _ _ ⟨rfl, rfl⟩
            refine ⟨hMP.1.drew, ?_⟩
            push_cast -dsimp
            refine ⟨⟨by omega, by omega⟩, ?_⟩
            have hOdP : Vc.Own B 109 3 encIn (w5).drew (.slice (some ⟨gP, 0, none⟩) ((CodeP.push c2 ⟨3, 0, 0⟩)).ins.length icP) ((CodeP.push c2 ⟨3, 0, 0⟩)).ins := hOP0.keptX ((Kept.refl (fun _ => False) (w5)).drew) (fun _ _ h => h)
            refine storeOwnF (i := ci.ins.length) (f := 2) (x := (⟨2, ((ci.ins.length + 1 : Nat) : Int), 0⟩ : I3)) (y := (⟨2, ((ci.ins.length + 1 : Nat) : Int), ((CodeP.push c2 ⟨3, 0, 0⟩).ins.length : Int)⟩ : I3)) hOdP rfl hk5 (by decide) rfl rfl ?_
            intro wP hOP hkP zP
            have hpP := Mk.patch ((hM5).below hbdP) (hMP.below hbdP) rfl hOP hkP
            obtain ⟨hMkP, hstepP⟩ := hpP
            have hstP : Mst mb (w5) wP := (Mst.below hbdP (by have := (hM5).lt; have := (hM5).le; omega)).trans hstepP
            refine ⟨trivial, ?_⟩
            push_cast -dsimp
            have hc4 : ∃ c4 : CodeP, c4 = ⟨(CodeP.push c2 ⟨3, 0, 0⟩).sets, (CodeP.push c2 ⟨3, 0, 0⟩).ins.set ci.ins.length ⟨2, ((ci.ins.length + 1 : Nat) : Int), ((CodeP.push c2 ⟨3, 0, 0⟩).ins.length : Int)⟩⟩ := ⟨_, rfl⟩
            obtain ⟨c4, hc4⟩ := hc4
            rw [← hc4] at hMkP
            have hn4 : c4.ins.length = c2.ins.length + 1 := by rw [hc4]; simp [CodeP.push]
            have hE4 : Ext ci c4 := by rw [hc4]; exact ((hE1.trans hE2).trans (Ext.push c2 _)).set (Nat.le_refl _)
            have hk4 : c4.ins[ci.ins.length]? = some ⟨2, ((ci.ins.length + 1 : Nat) : Int), ((c2.ins.length + 1 : Nat) : Int)⟩ := by
              rw [hc4]
              show ((CodeP.push c2 ⟨3, 0, 0⟩).ins.set ci.ins.length _)[ci.ins.length]? = _
              rw [List.getElem?_set, if_pos rfl, if_pos (by omega), hn3]
            have hj4 : c4.ins[c2.ins.length]? = some ⟨3, 0, 0⟩ := by
              rw [hc4]
              show ((CodeP.push c2 ⟨3, 0, 0⟩).ins.set ci.ins.length _)[c2.ins.length]? = _
              rw [List.getElem?_set, if_neg (by omega)]
              exact push_at c2 _
            have hs4 : SameIn c2 c4 (ci.ins.length + 1) c2.ins.length := by
              rw [hc4]
              exact SameIn.set (SameIn.push ((Ext.refl c2).same (Nat.le_refl _)) (Nat.le_refl _)) (.inl (by omega))
            have hJ4 : SegJ (hasN nm) c4 back (l.take (i + 1)) c.ins.length (js ++ [c2.ins.length]) c4.ins.length := by
              rw [hyt]
              refine segJ_app _ _ _ ci.ins.length _ _ _ (segJ_same _ _ _ _ (hE4.same (Nat.le_refl _)) hJx) ?_
              simp only [SegJ]
              rw [hn1'] at hs2
              exact ⟨c2.ins.length, [], rfl, hk4, seg_same _ _ _ hs4 hs2, hj4, rfl, hn4.symm⟩
            have hO6 := hO5.keptX hstP.kept (fun g hg hm => hoff5 g hg hm)
            exact ⟨⟨by omega, by omega⟩, ⟨i + 1, c4, _, _, rfl, rfl, by omega, hMkP, hEx.trans hE4, by omega, hJ4, by simp [hjl], hO6, kx5.trans hstP⟩, by rw [h12]; simp only [intOf]; omega⟩
          · rintro ce w3 ⟨hl3, ht, k3⟩
            push_cast -dsimp
            exact ⟨by omega, ht, kx.trans (kq.trans k3)⟩
        · rintro ce wq ⟨hl2, ht, k2⟩
          push_cast -dsimp
          exact ⟨by omega, ht, kx.trans (kP.trans k2)⟩
      · rintro ce w1 ⟨hl2, ht, k1⟩
        push_cast -dsimp
        exact ⟨by omega, ht, kx.trans k1⟩
end Go.Proofs.YtledlfbbebodgaaGreatDoor
end
