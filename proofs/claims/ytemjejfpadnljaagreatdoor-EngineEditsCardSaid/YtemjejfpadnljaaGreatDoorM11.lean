/- Texts of this claim, merged: Open, Right, Rgt, OpenC, Svd, Op1, Op2, Thr, Two, Op3, Sv, Sw. -/
import Derived.ProofKit
import Derived.Handy
import Derived.OpenShut
import Derived.LaidMore
import Derived.Deep.Strs
import Derived.Test.YtemjejfpadnljaaGreatDoorM9
set_option maxRecDepth 100000
set_option linter.unusedSimpArgs false
set_option linter.unusedVariables false
set_option maxHeartbeats 8000000
namespace Go.Vc
open Go.RowKit
theorem qN {α:Type}(Pr:Nat->α->Prop):∀n,(∀i,i<n->∃x,Pr i x)->∃l:List α,l.length=n/\∀i x,l[i]?=some x->Pr i x
 | 0,_=>⟨[],rfl,λi x h=>by simp at h⟩
 | n+1,h=>by
  obtain⟨l,hl,hp⟩:=qN Pr n (λi hi=>h i (by omega));obtain⟨y,hy⟩:=h n (by omega);refine⟨l++[y],by simp[hl],λi x hx=>?_⟩;rcases Nat.lt_trichotomy i n with ao|heq|H3
  ·rw[List.getElem?_append_left (by omega)]at hx;exact hp i x hx
  ·subst heq;rw[List.getElem?_append_right (by omega),hl,Nat.sub_self]at hx;simp at hx;subst hx;exact hy
  rw[List.getElem?_eq_none (by simp[hl];omega)]at hx;cases hx
theorem mapM_cells {w:World}{a:Addr}:∀(n s:Nat) (cs:List Value),((List.range' s n).mapM λi=>w.cell? (a.add i))=some cs->cs.length=n/\∀j u,cs[j]?=some u->w.cell? (a.add (s+j))=some u
 | 0,s,cs,h=>by
  simp at h;subst h;exact⟨rfl,λj u hu=>by simp at hu⟩
 | n+1,s,cs,h=>by
  rw[List.range'_succ,List.mapM_cons]at h;cases hc:w.cell? (a.add s) with
  | none=>simp[hc]at h
  | some c =>
   rw[hc]at h;simp only[Option.pure_def,Option.bind_eq_bind,Option.bind_some]at h;cases hr:(List.range' (s+1) n).mapM λi=>w.cell? (a.add i) with
   | none=>simp[hr]at h
   | some r =>
    rw[hr]at h;simp only[Option.bind_some,Option.some.injEq]at h;subst h;obtain⟨h1,h2⟩:=mapM_cells n (s+1) r hr;refine⟨by simp[h1],λj u hu=>?_⟩;cases j with
    | zero=>simp at hu;subst hu;exact hc
    | succ j =>
     have:=h2 j u (by simpa using hu);rwa [show s+1+j=s+(j+1) by omega]at this
theorem zj {w:World}{base:Nat}{a:Addr}{n:Nat}{cs:List Value}(h:w.cells? base a n=some cs):cs.length=n/\∀j u,cs[j]?=some u->w.cell? (a.add j)=some u:=by
 unfold World.cells? at h;split at h
 ·rw[List.range_eq_range']at h;obtain⟨h1,h2⟩:=mapM_cells n 0 cs h;exact⟨h1,λj u hu=>by simpa using h2 j u hu⟩
 cases h
theorem open_slice {H:Type}{enc:TypeId×Value->H}{P:Program}{W:World}{base:Nat}{sp:Nat->Bool}{held:Bool}{α:Type}{t e:TypeId}{k:Nat}{R:List Value->α->Prop}(ht:P.underlying t=some (.slice e))(hc:P.cellsOf e=k)(hk:0<k)
  {fuel:Nat} {cs:List Value} {x:DataW H×List MemPlace} (h:DataW.trod enc P W base sp held fuel t cs=some x) (xQ:∀n cs y,cs.length=k->DataW.trod enc P W base sp held n e cs=some y->∃x,R cs x) :
  ∃v l,cs=[v]/\Sl (λ_=>False) k R W v l:=by
 rcases DataW.trod_slice ht h with ⟨rfl,_⟩|⟨a,len,cap,elems,rest,n,_,rfl,_,_,ON,_,hlen,he,_⟩
 ·exact⟨_,[],rfl,Sl.nil _ _ _ _ _ _⟩
 obtain⟨l,hl,hp⟩:=qN (λi (x:α)=>∃ci:List Value,ci.length=k/\(∀j u,ci[j]?=some u->W.cell? ((a.add (i*k)).add j)=some u)/\R ci x) len (λi hi=>by
  have hE:=he i hi;rw[hc]at hE;have hs:elems[i]?=some elems[i]:=List.getElem?_eq_getElem (by omega);rw[hs]at hE;obtain⟨ci,h1,h2⟩:=Option.bind_eq_some_iff.1 hE;obtain⟨h3,h4⟩:=zj h1;obtain⟨x,hx⟩:=xQ n ci _ h3 h2;exact⟨x,ci,h3,h4,hx⟩)
 refine⟨_,l,rfl,some a,cap,by rw[hl],by omega,λi x hx=>?_⟩;obtain⟨ci,h1,h2,h3⟩:=hp i x hx;have Z4:=(List.getElem?_eq_some_iff.1 hx).1;obtain⟨c0,g1,g2,_⟩:=hp 0 l[0] (List.getElem?_eq_getElem (by omega));have h0:=g2 0 c0[0] (List.getElem?_eq_getElem (by omega));obtain⟨b,o,spot⟩:=a;have sK:spot=none:=by
  have:=World.cell?_spot h0;rw[Nat.zero_mul]at this;simpa[Addr.add] using this
 subst sK;exact⟨b,o,ci,rfl,id,h1,λj u hu=>by have:=h2 j u hu;rwa [add_lit,add_lit]at this,h3⟩
end Go.Vc
namespace Go.Proofs.YtemjejfpadnljaaGreatDoor
open Go.Vc Go.Proofs Go.RowKit Cae
attribute [local irreducible] cZ ab ai aX runK ar Sl Vc.Own vc aS bu aZ
def bR (x:I3):List Value:=[.int .i64 x.op,.int .i64 x.a,.int .i64 x.b]
def elV:List Value->Value
 | [v]=>v
 | cs=>.agg cs.toArray
theorem KM {α:Type}(R:List Value->α->Prop)(g:FuncId)(cap:List Value)(f:α->Bool)(l:List α)(hl:l.length<1000000000)(X:Nat->Prop)(v:Value)(w:World)(hv:Sl X 1 R w v l)
  (hf:∀x∈l,∀cs,R cs x->cs.length=1->∀w',Below w.heap.size w w'->ar Tryz.prog g (elV cs::cap) w' λr bB=>r=.bool (f x)/\Below w'.heap.size w' bB) :
  ar Tryz.prog 146 [v,.func (.func g) #[] cap.toArray] w λr w'=>(∃n:Int,r=.int .i64 n/\(0<=n↔l.any f=true))/\Below w.heap.size w w':=by
 obtain⟨a,c,rfl,hc⟩:=hv.shape;refine aE Tryz.func146 rfl (by kernel_rfl) [4] rfl ?_;push_cast -dsimp(maxSteps:=9^7) [Tryz.ntmps146];refine aK [4,5,8,9,10,11,12,13,14,15,16,17,18] (λz wx=>∃(i:Nat),z 8=.int .i64 i/\i<=l.length/\(∀x∈l.take i,f x=false)/\Below w.heap.size w wx) (λz _=>l.length-(intOf (z 8)).toNat) ?_ ?_
 ·exact⟨0,rfl,Nat.zero_le _,by simp,Below.refl _ _⟩
 intro z wx hI;obtain⟨i,h8,hi,bO,hb⟩:=hI;push_cast -dsimp[h8];refine⟨λao=>?_,λeY=>?_⟩
 ·obtain⟨x,hx,mR,hd,ht⟩:=ae (l:=l) (i:=i) (by omega);obtain⟨b,o,cs,ha,hX,hk,aP,hR⟩:=(hv.below hb).yL hx;subst ha;obtain⟨u,rfl⟩:∃u,cs=[u]:=(match cs,hk with|[u],_=>⟨u,rfl⟩);have c0:wx.cell? ⟨b,o+i,none⟩=some u:=(by simpa using aP 0 u rfl);push_cast -dsimp[c0]
  refine⟨⟨by omega,by omega⟩,?_⟩;refine aA (hf x mR _ hR rfl wx hb) ?_;rintro _ w1 ⟨rfl,fe⟩;have n0:=hb.trans (fe.mono hb.size);push_cast -dsimp[FH];refine⟨λyY=>?_,λgH=>?_⟩
  ·exact⟨⟨i,rfl,⟨λ_=>List.any_eq_true.2 ⟨x,mR,yY⟩,λ_=>by omega⟩⟩,n0⟩
  refine⟨⟨by omega,by omega⟩,⟨i+1,rfl,by omega,?_,n0⟩,by rw[h8];simp only[intOf];omega⟩;intro y hy;rw[ht,List.mem_append,List.mem_singleton]at hy;rcases hy with hy|rfl
  ·exact bO y hy
  exact gH
 refine⟨⟨-1,rfl,?_⟩,hb⟩;rw[List.take_of_length_le (by omega)]at bO;constructor
 ·intro h;omega
 intro h;obtain⟨x,hx,hn⟩:=List.any_eq_true.1 h;rw[bO x hx]at hn;cases hn
theorem Bi {α:Type}(R:List Value->α->Prop)(g:FuncId)(cap:List Value)(f:α->Bool)(l:List α)(hl:l.length<1000000000)(X:Nat->Prop)(v:Value)(w:World)(hv:Sl X 1 R w v l)
  (hf:∀x∈l,∀cs,R cs x->cs.length=1->∀w',Below w.heap.size w w'->ar Tryz.prog g (elV cs::cap) w' λr bB=>r=.bool (f x)/\Below w'.heap.size w' bB) :
  ar Tryz.prog 123 [v,.func (.func g) #[] cap.toArray] w λr w'=>r=.bool (l.any f)/\Below w.heap.size w w':=by
 refine aE Tryz.func123 rfl (by kernel_rfl) [4] rfl ?_;push_cast -dsimp(maxSteps:=9^7) [Tryz.ntmps123];refine aA (KM R g cap f l hl X v w hv hf) ?_;rintro r w1 ⟨⟨n,rfl,hn⟩,hb⟩;push_cast -dsimp;refine⟨?_,hb⟩;congr 1;cases h:l.any f with
 | true=>rw[h]at hn;exact decide_eq_true (hn.2 rfl)
 | false=>rw[h]at hn;exact decide_eq_false (λh0=>by have:=hn.1 h0;cases this)
theorem M3 {α:Type}(R:List Value->α->Prop)(g:FuncId)(cap:List Value)(f:α->Bool)(l:List α)(hl:l.length<1000000000)(X:Nat->Prop)(v:Value)(w:World)(hv:Sl X 3 R w v l)
  (hf:∀x∈l,∀cs,R cs x->cs.length=3->∀w',Below w.heap.size w w'->ar Tryz.prog g (elV cs::cap) w' λr bB=>r=.bool (f x)/\Below w'.heap.size w' bB) :
  ar Tryz.prog 143 [v,.func (.func g) #[] cap.toArray] w λr w'=>(∃n:Int,r=.int .i64 n/\(0<=n↔l.any f=true))/\Below w.heap.size w w':=by
 obtain⟨a,c,rfl,hc⟩:=hv.shape;refine aE Tryz.func143 rfl (by kernel_rfl) [4] rfl ?_;push_cast -dsimp(maxSteps:=9^7) [Tryz.ntmps143];refine aK [4,5,8,9,10,11,12,13,14,15,16,17,18] (λz wx=>∃(i:Nat),z 8=.int .i64 i/\i<=l.length/\(∀x∈l.take i,f x=false)/\Below w.heap.size w wx) (λz _=>l.length-(intOf (z 8)).toNat) ?_ ?_
 ·exact⟨0,rfl,Nat.zero_le _,by simp,Below.refl _ _⟩
 intro z wx hI;obtain⟨i,h8,hi,bO,hb⟩:=hI;push_cast -dsimp[h8];refine⟨λao=>?_,λeY=>?_⟩
 ·obtain⟨x,hx,mR,hd,ht⟩:=ae (l:=l) (i:=i) (by omega);obtain⟨b,o,cs,ha,hX,hk,aP,hR⟩:=(hv.below hb).yL hx;subst ha;obtain⟨u0,u1,u2,rfl⟩:∃u0 u1 u2,cs=[u0,u1,u2]:=(match cs,hk with|[u0,u1,u2],_=>⟨u0,u1,u2,rfl⟩);have c0:aB wx ⟨b,o+i*3,none⟩ 0 3=some [u0,u1,u2]:=(aj [u0,u1,u2] 0 (λj u hu=>by simpa using aP j u hu));push_cast -dsimp[c0]
  refine⟨⟨by omega,by omega⟩,?_⟩;refine aA (hf x mR _ hR rfl wx hb) ?_;rintro _ w1 ⟨rfl,fe⟩;have n0:=hb.trans (fe.mono hb.size);push_cast -dsimp[FH];refine⟨λyY=>?_,λgH=>?_⟩
  ·exact⟨⟨i,rfl,⟨λ_=>List.any_eq_true.2 ⟨x,mR,yY⟩,λ_=>by omega⟩⟩,n0⟩
  refine⟨⟨by omega,by omega⟩,⟨i+1,rfl,by omega,?_,n0⟩,by rw[h8];simp only[intOf];omega⟩;intro y hy;rw[ht,List.mem_append,List.mem_singleton]at hy;rcases hy with hy|rfl
  ·exact bO y hy
  exact gH
 refine⟨⟨-1,rfl,?_⟩,hb⟩;rw[List.take_of_length_le (by omega)]at bO;constructor
 ·intro h;omega
 intro h;obtain⟨x,hx,hn⟩:=List.any_eq_true.1 h;rw[bO x hx]at hn;cases hn
theorem sL {α:Type}(R:List Value->α->Prop)(g:FuncId)(cap:List Value)(f:α->Bool)(l:List α)(hl:l.length<1000000000)(X:Nat->Prop)(v:Value)(w:World)(hv:Sl X 3 R w v l)
  (hf:∀x∈l,∀cs,R cs x->cs.length=3->∀w',Below w.heap.size w w'->ar Tryz.prog g (elV cs::cap) w' λr bB=>r=.bool (f x)/\Below w'.heap.size w' bB) :
  ar Tryz.prog 115 [v,.func (.func g) #[] cap.toArray] w λr w'=>r=.bool (l.any f)/\Below w.heap.size w w':=by
 refine aE Tryz.func115 rfl (by kernel_rfl) [4] rfl ?_;push_cast -dsimp(maxSteps:=9^7) [Tryz.ntmps115];refine aA (M3 R g cap f l hl X v w hv hf) ?_;rintro r w1 ⟨⟨n,rfl,hn⟩,hb⟩;push_cast -dsimp;refine⟨?_,hb⟩;congr 1;cases h:l.any f with
 | true=>rw[h]at hn;exact decide_eq_true (hn.2 rfl)
 | false=>rw[h]at hn;exact decide_eq_false (λh0=>by have:=hn.1 h0;cases this)
def LO (X:Nat->Prop)(w:World):List Value->List Rg->Prop:=λcs s=>∃u,cs=[u]/\Sl X 2 (En bA) w u s
def dq (X:Nat->Prop)(w:World)(v:Value)(l:List (List Rg)):Prop:=Sl X 1 (LO X w) w v l
def cM (X:Nat->Prop)(w:World)(v:Value)(c:aD):Prop:=∃sv iv,v=.agg #[sv,iv]/\dq X w sv c.sets/\Sl X 3 (En bR) w iv c.ins
theorem LO.mono {X X':Nat->Prop}{w w':World}{cs:List Value}{s:List Rg}(h:LO X w cs s)(hs:∀b,¬X b->b<w.heap.size->w'.heap[b]?=w.heap[b]?)(hX:∀b,X' b->X b):LO X' w' cs s:=by
 obtain⟨u,rfl,h⟩:=h;exact⟨u,rfl,h.mono hs (λ_ _ _ h=>h) hX⟩
theorem dq.mono {X X':Nat->Prop}{w w':World}{v:Value}{l:List (List Rg)}(h:dq X w v l)(hs:∀b,¬X b->b<w.heap.size->w'.heap[b]?=w.heap[b]?)(hX:∀b,X' b->X b):dq X' w' v l :=
 Sl.mono h hs (λ_ _ _ h=>h.mono hs hX) hX
theorem cM.mono {X X':Nat->Prop}{w w':World}{v:Value}{c:aD}(h:cM X w v c)(hs:∀b,¬X b->b<w.heap.size->w'.heap[b]?=w.heap[b]?)(hX:∀b,X' b->X b):cM X' w' v c:=by
 obtain⟨sv,iv,rfl,h1,h2⟩:=h;exact⟨sv,iv,rfl,h1.mono hs hX,h2.mono hs (λ_ _ _ h=>h) hX⟩
theorem dq.below {X:Nat->Prop}{w w':World}{v:Value}{l:List (List Rg)}(h:dq X w v l)(hb:Below w.heap.size w w'):dq X w' v l:=h.mono (λb _ ao=>hb.block b ao) (λ_ h=>h)
theorem cM.below {X:Nat->Prop}{w w':World}{v:Value}{c:aD}(h:cM X w v c)(hb:Below w.heap.size w w'):cM X w' v c:=h.mono (λb _ ao=>hb.block b ao) (λ_ h=>h)
theorem dq.kept {X Y:Nat->Prop}{w w':World}{v:Value}{l:List (List Rg)}(h:dq X w v l)(hb:Kept Y w w')(hY:∀i,Y i->X i):dq X w' v l:=h.mono (λb hx ao=>hb.block b ao λhh=>hx (hY b hh)) (λ_ h=>h)
theorem cM.kept {X Y:Nat->Prop}{w w':World}{v:Value}{c:aD}(h:cM X w v c)(hb:Kept Y w w')(hY:∀i,Y i->X i):cM X w' v c:=h.mono (λb hx ao=>hb.block b ao λhh=>hx (hY b hh)) (λ_ h=>h)
theorem wT (k n:Int)(b:Nat)(w:World)(hn:w.cell? ⟨b,0,none⟩=some (.int .i64 n)) :
  ar Tryz.prog 145 [.int .i64 k,.pointer (some ⟨b,0,none⟩)] w λr w'=>r=.bool (decide (0<=k/\k<n))/\w'=w:=by
 refine aE Tryz.func145 rfl (by kernel_rfl) [3] rfl ?_;push_cast -dsimp(maxSteps:=9^7) [Tryz.ntmps145];push_cast -dsimp[hn];constructor
 ·intro h;simp[h]
 intro h;simp[h]
theorem aCq (x:I3)(sets n:Int)(w:World) :
  ar Tryz.prog 122 [.agg #[.int .i64 x.op,.int .i64 x.a,.int .i64 x.b],.int .i64 sets,.int .i64 n] w λr w'=>r=.bool (bL x sets n)/\Below w.heap.size w w':=by
 refine aE Tryz.func122 rfl (by kernel_rfl) [6] rfl ?_;push_cast -dsimp(maxSteps:=9^7) [Tryz.ntmps122];refine aR ?_;intro w1 aU;push_cast -dsimp;refine aR ?_;intro w2 bJ;have hb:Below w.heap.size w w2:=aU.below.trans (bJ.below.mono (by have:=aU.size;omega));have g:∀{j u},[Value.int .i64 x.op,.int .i64 x.a,.int .i64 x.b][j]?=some u->w2.cell? ⟨w.heap.size,j,none⟩=some u:=λ{j u} h=>(bJ.below.cell (by have:=aU.size;show w.heap.size<_;omega)).trans (aU.cell h)
 have c0:w2.cell? ⟨w.heap.size,0,none⟩=some (.int .i64 x.op):=g rfl;have c1:w2.cell? ⟨w.heap.size,1,none⟩=some (.int .i64 x.a):=g rfl;have c2:w2.cell? ⟨w.heap.size,2,none⟩=some (.int .i64 x.b):=g rfl;have cn:w2.cell? ⟨w1.heap.size,0,none⟩=some (.int .i64 n):=bJ.cell0;push_cast -dsimp[c0,c1,c2];unfold bL;refine⟨λh1=>?_,λh1=>⟨λh2=>?_,λh2=>⟨λh3=>?_,λh3=>?_⟩⟩⟩
 ·rw[if_pos h1]
  repeat' first|apply And.intro|intro _
  all_goals first|exact hb|(congr 1;rw[decide_eq_decide];omega)|(congr 1;exact(decide_eq_false (by omega)).symm)|(congr 1;exact(decide_eq_true (by omega)).symm)|omega
 ·rw[if_neg h1,if_pos h2];refine aA (wT _ n _ w2 cn) ?_;rintro _ w3 ⟨rfl,hw⟩;subst hw;push_cast -dsimp[c1,c2];refine⟨λha=>?_,λha=>⟨by congr 1;exact(decide_eq_false (by omega)).symm,hb⟩⟩;refine aA (wT _ n _ w3 cn) ?_;rintro _ w4 ⟨rfl,hw⟩;subst hw;push_cast -dsimp;exact⟨by congr 1;rw[decide_eq_decide];omega,hb⟩
 ·rw[if_neg h1,if_neg h2,if_pos h3];refine aA (wT _ n _ w2 cn) ?_;rintro _ w3 ⟨rfl,hw⟩;subst hw;push_cast -dsimp[c1,c2]
  repeat' first|apply And.intro|intro _
  all_goals first|exact hb|(congr 1;rw[decide_eq_decide];omega)|(congr 1;exact(decide_eq_false (by omega)).symm)|(congr 1;exact(decide_eq_true (by omega)).symm)|omega
 rw[if_neg h1,if_neg h2,if_neg h3];refine⟨λh4=>?_,λh4=>⟨λh5=>?_,λh5=>?_⟩⟩
 ·rw[if_pos (.inl h4)]
  repeat' first|apply And.intro|intro _
  all_goals first|exact hb|(congr 1;rw[decide_eq_decide];omega)|(congr 1;exact(decide_eq_false (by omega)).symm)|(congr 1;exact(decide_eq_true (by omega)).symm)|omega
 ·rw[if_pos (.inr h5)]
  repeat' first|apply And.intro|intro _
  all_goals first|exact hb|(congr 1;rw[decide_eq_decide];omega)|(congr 1;exact(decide_eq_false (by omega)).symm)|(congr 1;exact(decide_eq_true (by omega)).symm)|omega
 rw[if_neg (by omega)];exact⟨rfl,hb⟩
theorem NB (x:I3)(bc bn:Nat)(a:Option Addr)(m cp:Nat)(n:Int)(w:World)(hc:w.cell? ⟨bc,0,none⟩=some (.slice a m cp))(hn:w.cell? ⟨bn,0,none⟩=some (.int .i64 n)) :
  ar Tryz.prog 121 [.agg #[.int .i64 x.op,.int .i64 x.a,.int .i64 x.b],.pointer (some ⟨bc,0,none⟩),.pointer (some ⟨bn,0,none⟩)] w λr w'=>r=.bool (!bL x m n)/\Below w.heap.size w w':=by
 refine aE Tryz.func121 rfl (by kernel_rfl) [4] rfl ?_;push_cast -dsimp(maxSteps:=9^7) [Tryz.ntmps121];refine aR ?_;intro w1 aU;have d0:aB w1 ⟨w.heap.size,0,none⟩ 0 3=some [.int .i64 x.op,.int .i64 x.a,.int .i64 x.b]:=aU.aL.aB;have dc:w1.cell? ⟨bc,0,none⟩=some (.slice a m cp):=(Kept.new aU (X:=λ_=>False)).cell hc id;have dn:w1.cell? ⟨bn,0,none⟩=some (.int .i64 n):=(Kept.new aU (X:=λ_=>False)).cell hn id;push_cast -dsimp[d0,dc,dn];refine aA (aCq x m n w1) ?_;rintro _ w2 ⟨rfl,dh⟩;push_cast -dsimp;exact aU.below.trans (dh.mono (by have:=aU.size;omega))
theorem NC (s:List Rg)(hs:s.length<1000000000)(X:Nat->Prop)(v:Value)(w:World)(hv:Sl X 2 (En bA) w v s) :
  ar Tryz.prog 124 [v] w λr w'=>r=.bool (!aO (-2) s)/\Below w.heap.size w w':=by
 refine aE Tryz.func124 rfl (by kernel_rfl) [2] rfl ?_;push_cast -dsimp(maxSteps:=9^7) [Tryz.ntmps124];refine aA (tT s hs X v w hv) ?_;rintro _ w1 ⟨rfl,hb⟩;push_cast -dsimp;exact hb
def jt (c:aD):Prop:=∀s∈c.sets,s.length<1000000000
theorem Ek {α:Type}(l:List α)(f:α->Bool):(!(l.any λx=>!f x))=l.all f:=by
 induction l with
 | nil=>rfl
 | cons x l ih=>simp only[List.any_cons,List.all_cons,Bool.not_or,Bool.not_not,ih]
theorem og (c:aD)(hl:jt c)(hi:c.ins.length<1000000000)(hs:c.sets.length<1000000000)(X:Nat->Prop)(v:Value)(w:World)(hv:cM X w v c) :
  ar Tryz.prog 88 [v] w λr w'=>r=.bool (aV c)/\Below w.heap.size w w':=by
 obtain⟨sv,iv,rfl,tE,td⟩:=hv;obtain⟨a1,c1,rfl,GS⟩:=tE.shape;obtain⟨a2,c2,rfl,uP⟩:=td.shape;refine aE Tryz.func88 rfl (by kernel_rfl) [2] rfl ?_;push_cast -dsimp(maxSteps:=9^7) [Tryz.ntmps88];refine aR ?_;intro w1 aU;have d0:w1.cell? ⟨w.heap.size,0,none⟩=some (.slice a1 c.sets.length c1):=aU.cell rfl;have d1:w1.cell? ⟨w.heap.size,1,none⟩=some (.slice a2 c.ins.length c2):=aU.cell rfl;push_cast -dsimp[d0,d1];refine aq (z:=[.int .i64 0]) (by kernel_rfl) ?_;intro w2 bJ;push_cast -dsimp;refine aC bJ.aL (by simp) rfl ?_;intro w3 cN;have gV:Below w.heap.size w w3:=aU.below.trans ((bJ.below.mono (by have:=aU.size;omega)).trans (cN.kept.below (by have:=aU.size;have:=bJ.size;omega) (λ_ h=>by have:=aU.size;omega)));have e0:w3.cell? ⟨w.heap.size,0,none⟩=some (.slice a1 c.sets.length c1):=cN.kept.cell ((Kept.new bJ (X:=λ_=>False)).cell d0 id) (by have:=aU.size;show ¬w.heap.size=w1.heap.size;omega)
 have e1:w3.cell? ⟨w.heap.size,1,none⟩=some (.slice a2 c.ins.length c2):=cN.kept.cell ((Kept.new bJ (X:=λ_=>False)).cell d1 id) (by have:=aU.size;show ¬w.heap.size=w1.heap.size;omega)
 have en:w3.cell? ⟨w1.heap.size,0,none⟩=some (.int .i64 c.ins.length):=cN.aL.cell rfl;push_cast -dsimp[en,e0,e1];have gH:¬(1<=c.ins.length/\c.ins.length<=2000/\c.sets.length<=2000)->Value.bool false=Value.bool (aV c):=λh=>by
  congr 1;unfold aV;rw[decide_eq_false h];rfl
 refine⟨λh1=>⟨λh2=>⟨λh3=>⟨⟨by omega,by omega⟩,?_⟩,λh3=>⟨gH (by omega),gV⟩⟩,λh2=>⟨gH (by omega),gV⟩⟩,λh1=>⟨gH (by omega),gV⟩⟩;obtain⟨x,hx,mR,_,_⟩:=ae (l:=c.ins) (i:=c.ins.length-1) (by omega);obtain⟨b,o,rfl,hX,aP⟩:=(td.below gV).get hx;have c0:w3.cell? ⟨b,o+(c.ins.length-1)*3,none⟩=some (.int .i64 x.op):=aP 0 _ rfl;have aIb:((c.ins.length:Int)-1).toNat=c.ins.length-1:=by omega
 push_cast -dsimp[aIb,c0];have AU:(x.op=1\/x.op=4)->Value.bool false=Value.bool (aV c):=λh=>by
  congr 1;unfold aV;rw[hx];dsimp only;rw[decide_eq_false (p:=x.op≠1/\x.op≠4) (by omega)];simp
 refine⟨⟨by omega,by omega⟩,λuU=>?_,λuU=>⟨AU (.inl uU),gV⟩⟩;push_cast -dsimp[aIb,en,e1,c0];refine⟨⟨by omega,by omega⟩,⟨by omega,by omega⟩,λkU=>⟨AU (.inr kU),gV⟩,λkU=>?_⟩;have dD:aV c=(c.ins.all (λx=>bL x c.sets.length c.ins.length) && c.sets.all (aO (-2))):=by
  unfold aV;rw[hx];dsimp only;rw[decide_eq_true (by omega),decide_eq_true ⟨uU,kU⟩,Bool.true_and,Bool.true_and]
 refine aA (sL (En bR) 121 [.pointer (some ⟨w.heap.size,0,none⟩),.pointer (some ⟨w1.heap.size,0,none⟩)] (λx=>!bL x c.sets.length c.ins.length) c.ins (by omega) X _ w3 (td.below gV) ?_) ?_
 ·rintro y hy cs rfl _ w' Dc;exact NB y w.heap.size w1.heap.size a1 c.sets.length c1 c.ins.length w' ((Dc.cell (World.block_lt_of_cell? w3 _ e0)).trans e0) ((Dc.cell (World.block_lt_of_cell? w3 _ en)).trans en)
 rintro _ w4 ⟨rfl,nn⟩;have f0:=(nn.cell (World.block_lt_of_cell? w3 _ e0)).trans e0;have Cq:=gV.trans (nn.mono gV.size);push_cast -dsimp[f0];rw[Ek];cases hA:c.ins.all (λx=>bL x c.sets.length c.ins.length) with
 | false =>
  push_cast -dsimp;exact⟨by rw[dD,hA,Bool.false_and],Cq⟩
 | true =>
  push_cast -dsimp[f0];refine aA (Bi (LO X w4) 124 [] (λx=>!aO (-2) x) c.sets (by omega) X _ w4 (tE.below Cq) ?_) ?_
  ·rintro s RW cs ⟨u,rfl,hu⟩ _ w' Dc;exact NC s (hl s RW) X u w' (hu.below Dc)
  rintro _ w5 ⟨rfl,mn⟩;push_cast -dsimp;exact⟨by rw[Ek,dD,hA,Bool.true_and],Cq.trans (mn.mono Cq.size)⟩
end Go.Proofs.YtemjejfpadnljaaGreatDoor
namespace Go.Proofs.YtemjejfpadnljaaGreatDoor
open Go.Vc Go.Proofs Go.RowKit Cae
attribute [local irreducible] cZ ab ai aX runK ar Sl Vc.Own vc aS bu aZ
open Go.Deep Go.ChangeShapes Go.WideShapes Go.ChangeAt
section
variable {H:Type} {enc:TypeId×Value->H} {W:World} {base:Nat} {sp:Nat->Bool} {held:Bool}
theorem aDb:Tryz.prog.cellsOf 3=1:=by kernel_rfl
theorem open_int {n:Nat}{cs:List Value}{y:DataW H×List MemPlace}(h:DataW.trod enc Tryz.prog W base sp held n 3 cs=some y):∃z:Int,cs=[.int .i64 z]:=by
 obtain⟨z,hz,_⟩:=DataW.trod_int Tryz.underlying3 h;exact⟨z,hz⟩
end
end Go.Proofs.YtemjejfpadnljaaGreatDoor
namespace Go.Proofs.YtemjejfpadnljaaGreatDoor
open Go.Vc Go.Proofs Go.RowKit Cae
structure SV where
 a:Option Addr
 n:Nat
 c:Nat
def SV.v (s:SV):Value:=.slice s.a s.n s.c
def jb (s:SV):List Value:=[s.v]
theorem vr:∀x,∀u∈jb x,u.oneCell'=true:=by simp[jb,SV.v,Value.oneCell']
theorem jB:∀x,∀u∈bR x,u.oneCell'=true:=by simp[bR,Value.oneCell']
structure PV where
 b:Bool
 s1:SV
 i1:SV
 s2:SV
 i2:SV
def gL (u:PV):List Value:=[.bool u.b,u.s1.v,u.i1.v,u.s2.v,u.i2.v]
theorem vp:∀x,∀u∈gL x,u.oneCell'=true:=by simp[gL,SV.v,Value.oneCell']
theorem vB {α β:Type}{base k:Nat}{e:TypeId}{enc:α->List Value}{R:List Value->β->Prop}{w:World}{v:Value}{us:List α}{l:List β}(h:Vc.Own base e k enc w v us)(hl:us.length=l.length)
  (hR:∀(i:Nat) (x:β),l[i]?=some x->∃u,us[i]?=some u/\R (enc u) x):Sl (·<base) k R w v l:=by
 have hs:=h.sl;unfold Sl at hs ⊢
 obtain⟨a,c,he,hc,hh⟩:=hs;refine⟨a,c,by rw[he,hl],by omega,λi x hx=>?_⟩;obtain⟨u,hu,hr⟩:=hR i x hx;obtain⟨b,o,cs,ha,hb,iS,aP,rfl⟩:=hh i u hu;exact⟨b,o,_,ha,hb,iS,aP,hr⟩
theorem sX {α β:Type}{Pr:Nat->α->β->Prop}{us:List α}{l:List β}{u:α}{x:β}(hl:us.length=l.length)(h:∀(i:Nat) (y:β),l[i]?=some y->∃v,us[i]?=some v/\Pr i v y)(hx:Pr l.length u x) :
  ∀(i:Nat) (y:β),(l++[x])[i]?=some y->∃v,(us++[u])[i]?=some v/\Pr i v y:=by
 intro i y hy;rcases Nat.lt_trichotomy i l.length with ao|heq|H3
 ·rw[List.getElem?_append_left ao]at hy;obtain⟨v,h1,h2⟩:=h i y hy;exact⟨v,by rw[List.getElem?_append_left (by omega)];exact h1,h2⟩
 ·subst heq;rw[List.getElem?_append_right (Nat.le_refl _),Nat.sub_self]at hy;simp at hy;subst hy;exact⟨u,by rw[List.getElem?_append_right (by omega),hl,Nat.sub_self];rfl,hx⟩
 rw[List.getElem?_eq_none (by simp;omega)]at hy;cases hy
theorem dq.values {X:Nat->Prop}{w:World}{v:Value}{l:List (List Rg)}(h:dq X w v l):∃us:List SV,us.length=l.length/\Sl X 1 (En jb) w v us/\∀(i:Nat) (u:SV) (s:List Rg),us[i]?=some u->l[i]?=some s->Sl X 2 (En bA) w u.v s:=by
 have h0:=h.shape;obtain⟨a,c,rfl,hc⟩:=h0;have dD:∀(i:Nat) (s:List Rg),l[i]?=some s->∃u:SV,Sl X 2 (En bA) w u.v s/\∃b o,a=some ⟨b,o,none⟩/\¬X b/\w.cell? ⟨b,o+i,none⟩=some u.v:=λi s hs=>by
  obtain⟨b,o,cs,e,hX,iS,aP,u,rfl,hu⟩:=h.yL hs;obtain⟨a',c',rfl,_⟩:=hu.shape;refine⟨⟨a',s.length,c'⟩,hu,b,o,e,hX,?_⟩
  have:=aP 0 _ rfl;rw[Nat.mul_one,Nat.add_zero]at this;rw[this];rfl
 have hex:∃us:List SV,us.length=l.length/\∀(i:Nat) (s:List Rg),l[i]?=some s->∃u,us[i]?=some u/\Sl X 2 (En bA) w u.v s/\∃b o,a=some ⟨b,o,none⟩/\¬X b/\w.cell? ⟨b,o+i,none⟩=some u.v:=by
  have key:∀n,n<=l.length->∃us:List SV,us.length=n/\∀(i:Nat) (s:List Rg),i<n->l[i]?=some s->∃u,us[i]?=some u/\Sl X 2 (En bA) w u.v s/\∃b o,a=some ⟨b,o,none⟩/\¬X b/\w.cell? ⟨b,o+i,none⟩=some u.v:=λn hn=>by
   induction n with
   | zero=>exact⟨[],rfl,λi s hi=>absurd hi (by omega)⟩
   | succ n ih =>
    obtain⟨us,hl,qE⟩:=ih (by omega);obtain⟨u,hu⟩:=dD n _ (List.getElem?_eq_getElem (by omega));refine⟨us++[u],by simp[hl],λi s hi hs=>?_⟩;by_cases e:i=n
    ·subst e;rw[List.getElem?_eq_getElem (by omega)]at hs;cases hs;exact⟨u,by rw[List.getElem?_append_right (by omega),hl,Nat.sub_self];rfl,hu⟩
    obtain⟨u',h1,h2⟩:=qE i s (by omega) hs;exact⟨u',by rw[List.getElem?_append_left (by omega)];exact h1,h2⟩
  obtain⟨us,h1,h2⟩:=key l.length (Nat.le_refl _);exact⟨us,h1,λi s hs=>h2 i s (List.getElem?_eq_some_iff.1 hs).1 hs⟩
 obtain⟨us,hl,qE⟩:=hex;refine⟨us,hl,⟨a,c,by rw[hl],by omega,λi u hu=>?_⟩,λi u s hu hs=>?_⟩
 ·have ao:=(List.getElem?_eq_some_iff.1 hu).1;obtain⟨u',h1,h2,b,o,e,hX,aP⟩:=qE i _ (List.getElem?_eq_getElem (by omega));rw[hu]at h1;cases h1;refine⟨b,o,[u.v],e,hX,rfl,λj x hx=>?_,rfl⟩;cases j with
  | zero=>simp at hx;subst hx;rw[Nat.mul_one,Nat.add_zero];exact aP
  | succ j=>simp at hx
 obtain⟨u',h1,h2,_⟩:=qE i s hs;rw[hu]at h1;cases h1;exact h2
theorem dq.rU {X:Nat->Prop}{w:World}{v:Value}{l:List (List Rg)}{us:List SV}(hl:us.length=l.length)(h:Sl X 1 (En jb) w v us)(hu:∀(i:Nat) (u:SV) (s:List Rg),us[i]?=some u->l[i]?=some s->Sl X 2 (En bA) w u.v s):dq X w v l:=by
 obtain⟨a,c,rfl,hc⟩:=h.shape;refine⟨a,c,by rw[hl],by omega,λi s hs=>?_⟩;have ao:=(List.getElem?_eq_some_iff.1 hs).1;have hx:=List.getElem?_eq_getElem (l:=us) (i:=i) (by omega);obtain⟨b,o,cs,e,hX,iS,aP,rfl⟩:=h.yL hx;exact⟨b,o,_,e,hX,iS,aP,_,rfl,hu i _ s hx hs⟩
end Go.Proofs.YtemjejfpadnljaaGreatDoor
namespace Go.Vc
open Go.RowKit
theorem Sl.fresh {α:Type}{X X':Nat->Prop}{k:Nat}{enc:α->List Value}{w:World}{v:Value}{l:List α}(hk:∀x,0<(enc x).length)(h:Sl X k (En enc) w v l)(hX:∀b,X' b->X b\/w.heap.size<=b):Sl X' k (En enc) w v l:=by
 obtain⟨a,c,rfl,hc,h⟩:=h;refine⟨a,c,rfl,hc,λi x hx=>?_⟩;obtain⟨b,o,cs,e,mO,hl,aP,rfl⟩:=h i x hx;refine⟨b,o,_,e,λhb=>?_,hl,aP,rfl⟩;have:b<w.heap.size:=World.block_lt_of_cell? w _ (aP 0 _ (List.getElem?_eq_getElem (hk x)));rcases hX b hb with h|h
 ·exact mO h
 omega
theorem Own.aKX {α:Type}{base:Nat}{e:TypeId}{k:Nat}{enc:α->List Value}{w:World}{v:Value}{l:List α}(h:Vc.Own base e k enc w v l):Sl (λb=>v.ownBlock≠some b) k (En enc) w v l:=by
 have hs:=h.sl;obtain⟨a,c,rfl,hc,hs⟩:=hs;refine⟨a,c,rfl,hc,λi x hx=>?_⟩;obtain⟨b,o,cs,e,mO,hl,aP,iS⟩:=hs i x hx;refine⟨b,o,cs,e,?_,hl,aP,iS⟩;subst e;simp[Value.ownBlock]
end Go.Vc
namespace Go.Vc
theorem Sl.Od {α:Type}{X Y Z:Nat->Prop}{k:Nat}{enc:α->List Value}{w w':World}{v:Value}{l:List α}(h:Sl X k (En enc) w v l)(hk:∀x,0<(enc x).length)(kc:Kept Y w w')(hY:∀i,Y i->X i)(hZ:∀b,Z b->X b\/w.heap.size<=b):Sl Z k (En enc) w' v l :=
 (((h.fresh hk (X':=λb=>X b\/Z b) (λb hb=>by
  rcases hb with hb|hb
  ·exact .inl hb
  exact hZ b hb)).kept kc (λi hi=>.inl (hY i hi))).weaken (λb hb=>.inr hb))
end Go.Vc
namespace Go.Proofs.YtemjejfpadnljaaGreatDoor
open Go.Vc Go.Proofs Go.RowKit Cae
attribute [local irreducible] cZ ab ai aX runK ar Sl Vc.Own vc aS bu aZ
def aIf (b:Bool):List Value:=[.bool b]
theorem sO {is:List Bool}:∀(f f' k:Nat),is.length<=f+k->is.length<=f'+k->bS is f k=bS is f' k
 | 0,f',k,h,h'=>by rw[bS,pN f' (by omega)]
 | f+1,0,k,h,h'=>by rw[pN _ (by omega),bS]
 | f+1,f'+1,k,h,h'=>by
  rw[bS,bS];split
  ·rfl
  split
  ·exact sO f f' (k+1) (by omega) (by omega)
  rfl
theorem Ax (is:List Bool)(k:Nat)(h:k<is.length):nL is k=bS is (is.length-(k+1)) (k+1):=sO _ _ _ (by omega) (by omega)
theorem WC (c:aD)(hc:CR c)(k:Nat)(hk:k<c.ins.length)(X:Nat->Prop)(v:Value)(w:World)(hv:cM X w v c) :
  ar Tryz.prog 142 [v,.int .i64 k] w λr w'=>r=.int .i64 (gS c k)/\Below w.heap.size w w':=by
 have hm:=hc.many;obtain⟨sv,iv,rfl,tE,td⟩:=hv;obtain⟨a,cp,rfl,RG⟩:=td.shape;refine aE Tryz.func142 rfl (by kernel_rfl) [4] rfl ?_;push_cast -dsimp(maxSteps:=9^7) [Tryz.ntmps142];refine aR ?_;intro w1 aU;have aU:mj w w1 127 [sv,.slice a c.ins.length cp]:=aU;have c0:w1.cell? ⟨w.heap.size,1,none⟩=some (.slice a c.ins.length cp):=aU.cell rfl;push_cast -dsimp[c0];refine aK [1,8,9,10,11,12,13,14,15,16,17,18,19,20,21,22,23] (λz wx=>∃(i k':Nat),z 8=.int .i64 i/\z 1=.int .i64 k'/\i<=c.ins.length/\k'<c.ins.length/\se c (c.ins.length-i) k'=gS c k/\wx=w1) (λz _=>c.ins.length-(intOf (z 8)).toNat) ?_ ?_
 ·exact⟨0,k,rfl,rfl,Nat.zero_le _,hk,rfl,rfl⟩
 intro z wx hI;obtain⟨i,k',h8,h1,hi,CS,hf,rfl⟩:=hI;have hg:=ae (l:=c.ins) (i:=k') CS;obtain⟨x,hx,mR,_⟩:=hg;have hg:=(td.below aU.below).get hx;obtain⟨b,o,rfl,hX,aP⟩:=hg;have e0:wx.cell? ⟨b,o+k'*3,none⟩=some (.int .i64 x.op):=by simpa using aP 0 _ rfl
 have e1:wx.cell? ⟨b,o+k'*3+1,none⟩=some (.int .i64 x.a):=by simpa using aP 1 _ rfl
 push_cast -dsimp[h8,h1,c0,e0,e1];refine⟨λao=>⟨⟨by omega,by omega⟩,λh3=>?_,λh3=>?_⟩,λeY=>?_⟩
 ·have e:se c (c.ins.length-i) k'=k':=by
   rw[show c.ins.length-i=(c.ins.length-i-1)+1 by omega,se,hx]
   dsimp only;rw[if_neg h3]
  rw[<-hf,e];exact⟨rfl,aU.below⟩
 ·have h3:x.op=3:=Classical.byContradiction h3;have hj:=iV hc hx h3;have e:se c (c.ins.length-i) k'=se c (c.ins.length-(i+1)) x.a.toNat:=by
   rw[show c.ins.length-i=(c.ins.length-(i+1))+1 by omega,se,hx]
   dsimp only;rw[if_pos h3]
  refine⟨⟨by omega,by omega⟩,⟨by omega,by omega⟩,⟨i+1,x.a.toNat,rfl,?_,by omega,hj.2.1,by rw[<-e];exact hf⟩,?_⟩
  ·rw[Int.toNat_of_nonneg hj.1]
  simp only[intOf];omega
 have e:c.ins.length-i=0:=by omega
 rw[e,se]at hf;rw[<-hf];exact⟨rfl,aU.below⟩
theorem Xr (is:List Bool)(hn:is.length<1000000)(k:Nat)(X:Nat->Prop)(v:Value)(w:World)(hv:Sl X 1 (En aIf) w v is)(hk:k<is.length) :
  ar Tryz.prog 141 [v,.int .i64 k] w λr w'=>r=.int .i64 (nL is k)/\w'=w:=by
 obtain⟨a,cp,rfl,RG⟩:=hv.shape;refine aE Tryz.func141 rfl (by kernel_rfl) [4] rfl ?_;push_cast -dsimp(maxSteps:=9^7) [Tryz.ntmps141];refine⟨⟨by omega,by omega⟩,?_⟩;refine aK [4,5,8,9,10,11,12,13,14,15,16,17,18] (λz wx=>∃(i:Nat),z 5=.int .i64 i/\k<i/\i<=is.length/\nL is k=bS is (is.length-i) i/\wx=w) (λz _=>is.length-(intOf (z 5)).toNat) ?_ ?_
 ·refine⟨k+1,rfl,by omega,by omega,?_,rfl⟩;exact Ax is k (by omega)
 intro z wx hI;obtain⟨i,h5,JE,hi,hN,rfl⟩:=hI;rcases Nat.lt_or_ge i is.length with ao|eY
 ·have hg:=ae (l:=is) (i:=i) ao;obtain⟨x,hx,mR,_⟩:=hg;have hg:=hv.get hx;obtain⟨b,o,rfl,hX,aP⟩:=hg;have e0:wx.cell? ⟨b,o+i,none⟩=some (.bool x):=by simpa using aP 0 _ rfl
  have es:is.length-i=(is.length-(i+1))+1:=by omega
  cases x with
  | true =>
   push_cast -dsimp[h5,e0];rw[es,Gk hx]at hN;rw[hN];exact⟨λ_=>⟨⟨by omega,by omega⟩,rfl⟩,λh=>absurd h (by omega)⟩
  | false =>
   push_cast -dsimp[h5,e0];rw[es,DL (by rw[hx];simp) ao]at hN;refine⟨λ_=>⟨⟨by omega,by omega⟩,⟨by omega,by omega⟩,⟨i+1,rfl,by omega,by omega,hN⟩,by simp only[intOf];omega⟩,λh=>absurd h (by omega)⟩
 push_cast -dsimp[h5];refine⟨λh=>absurd h (by omega),λ_=>?_⟩;rw[pN _ eY]at hN;rw[hN]
theorem zo (l:List I3)(hl:l.length<1000000)(X:Nat->Prop)(v:Value)(w:World)(hv:Sl X 3 (En bR) w v l)(cY:l≠[]) :
  ar Tryz.prog 117 [v] w λr w'=>Vc.Own w.heap.size 164 3 bR w' r l/\Below w.heap.size w w':=by
 obtain⟨a,c,rfl,hc⟩:=hv.shape;refine aE Tryz.func117 rfl (by kernel_rfl) [2] rfl ?_;push_cast -dsimp(maxSteps:=9^7) [Tryz.ntmps117];cases a with
 | none =>
  obtain⟨x,r,rfl⟩:=List.exists_cons_of_ne_nil cY;have hg:=hv.get (i:=0) (x:=x) rfl;obtain⟨b,o,h,_⟩:=hg;cases h
 | some ad =>
  push_cast -dsimp[aIm];refine cH ep rfl rfl (by omega) ?_;intro w1 aU;have uU:=aU.own (base:=w.heap.size) (k:=3) (n:=0) (enc:=bR) (l:=[]) rfl rfl (λ_=>rfl) (Nat.le_refl _) (by omega);have pY:=aU.size;push_cast -dsimp;refine lp (base:=w.heap.size) (enc:=bR) (ys:=l) ep uU (hv.below aU.below) (λn c h=>by cases h) jB (by simp only[List.length_nil];omega) (by omega) ?_;intro v' w2 lF Cz dh;rw[List.nil_append]at lF;push_cast -dsimp;exact⟨lF,aU.below.trans dh⟩
end Go.Proofs.YtemjejfpadnljaaGreatDoor
namespace Go.Proofs.YtemjejfpadnljaaGreatDoor
open Go.Vc Go.Proofs Go.RowKit Cae
attribute [local irreducible] cZ ab ai aX runK ar Sl Vc.Own vc aS bu aZ
attribute [local irreducible] gS bP
theorem nu {X:Nat->Prop}{base:Nat}{w:World}{sv iv:Value}{c:aD}{sets:List (List Rg)}(hX:∀b,X b->b<base)(tE:dq X w sv sets)(ho:Vc.Own base 164 3 bR w iv c.ins)(hs:c.sets=sets):cM X w (.agg #[sv,iv]) c :=
 ⟨sv,iv,rfl,by rw[hs];exact tE,ho.sl.weaken hX⟩
theorem NT (c:aD)(hc:CR c)(X:Nat->Prop)(v:Value)(w:World)(hX:∀b,X b->b<w.heap.size)(hv:cM X w v c) :
  ar Tryz.prog 114 [v] w λr w'=>cM X w' r (oW c)/\Below w.heap.size w w':=by
 have hm:=hc.many;have sw:=hc.one;obtain⟨sv,iv,rfl,aKn,aN4⟩:=hv;have tE:dq (λ_=>False) w sv c.sets:=aKn.mono (λ_ _ _=>rfl) (λ_ h=>h.elim);have td:=aN4.weaken (X':=λ_=>False) (λ_ h=>h.elim);obtain⟨a,cp,rfl,RG⟩:=td.shape;have G0:=tE.shape;obtain⟨sa,sc,aOZ,CY⟩:=G0;refine gi Tryz.func114 rfl (by kernel_rfl) [.cell 2 127] rfl ?_;push_cast -dsimp(maxSteps:=9^7) [Tryz.ntmps114];refine aR ?_;intro w1 aU;have aU:mj w w1 127 [sv,.slice a c.ins.length cp]:=aU;have pY:=aU.size;push_cast -dsimp;refine aq (z:=[.slice none 0 0,.slice none 0 0]) (by kernel_rfl) ?_;intro w2 bJ;have Bn:=bJ.size;have dh:Below w.heap.size w w2:=aU.below.trans (bJ.below.mono (by omega));have fL:aM w2 w.heap.size 127 [sv,.slice a c.ins.length cp]:=aU.aL.below bJ.below (by omega);have c0:w2.cell? ⟨w.heap.size,1,none⟩=some (.slice a c.ins.length cp):=fL.cell rfl;push_cast -dsimp[c0];refine aA (zo c.ins (by omega) (λ_=>False) _ w2 (td.below dh) (λh=>by rw[h]at sw;simp at sw)) ?_;rintro v3 w3 ⟨mP,gV⟩;have LF:=gV.size;have Ly:=fL.below gV (by omega);have hR3:aM w3 w1.heap.size 127 [.slice none 0 0,.slice none 0 0]:=bJ.aL.below gV (by omega);have lT:=mP.slice;obtain⟨ga,gc,rfl⟩:=lT;have lT:=mP.cut;rcases lT with ⟨_,h0,_⟩|⟨g,rfl,_,hle,_⟩
 ·omega
 have CQ:=mP.block g rfl;push_cast -dsimp;refine aC Ly (by simp) rfl ?_;intro w4 ah;have Cq:aM w4 w.heap.size 127 [sv,.slice (some ⟨g,0,none⟩) c.ins.length gc]:=ah.aL;have KZ:=ah.size;have kU:=mP.aJ ah.kept (λg' CP h=>by have:g=g':=(by simpa[Value.ownBlock] using CP);omega);have hR4:=hR3.kept ah.kept (by omega);have nn:Below w.heap.size w w4:=dh.trans ((gV.mono (by omega)).trans (ah.kept.below (by omega) (λ_ h=>by omega)));have c4:w4.cell? ⟨w.heap.size,1,none⟩=some (.slice (some ⟨g,0,none⟩) c.ins.length gc):=Cq.cell rfl;push_cast -dsimp[c4];refine aK [3,4,5,6,14,15,16,17,18,19,20,21,22,23,24,25,26,27,28,29,30,31,32,33,34,35,36,37,38,39,40,41,42,43,44,45,46,47,48,49,50,51,52,53,54,55,56,57,58,59,60,61,62,63] (λz wx=>∃(i:Nat),z 14=.int .i64 i/\i<=c.ins.length/\Vc.Own w2.heap.size 164 3 bR wx (.slice (some ⟨g,0,none⟩) c.ins.length gc) (ak c i).ins/\aM wx w.heap.size 127 [sv,.slice (some ⟨g,0,none⟩) c.ins.length gc] /\
   aM wx w1.heap.size 127 [.slice none 0 0,.slice none 0 0]/\Below w.heap.size w wx/\w4.heap.size<=wx.heap.size) (λz _=>c.ins.length-(intOf (z 14)).toNat) ?_ ?_
 ·exact⟨0,rfl,Nat.zero_le _,kU,Cq,hR4,nn,Nat.le_refl _⟩
 intro z wx hI;obtain⟨i,h14,hi,eG,oE,vw,eV,ya⟩:=hI;have sK:=nj hc i;obtain⟨hCi,A0,hlen,_,aRd⟩:=sK;push_cast -dsimp[h14];refine⟨λao=>?_,λeY=>?_⟩
 ·have hg:=ae (l:=(ak c i).ins) (i:=i) (by omega);obtain⟨x,hx,mR,_⟩:=hg;have hg:=eG.sl.get hx;obtain⟨b,o,e,_,aP⟩:=hg;cases e;have ce:aB wx ⟨g,0+i*3,none⟩ 0 3=some (bR x):=aj (bR x) 0 (λj u hu=>by simpa using aP j u hu);rw[Nat.zero_add]at ce;unfold bR at ce;push_cast -dsimp[ce];refine⟨⟨by omega,by omega⟩,?_⟩;refine aq (z:=[.int .i64 0,.int .i64 0,.int .i64 0]) (by kernel_rfl) ?_;intro w5 cI;have NQ:=cI.size;push_cast -dsimp;refine aH (n:=3) (by kernel_rfl) cI.aL rfl (by simp) (by simp[Value.oneCell']) ?_;intro w6 bQ;have K0:=bQ.size;have CN:aM w6 wx.heap.size 164 [.int .i64 x.op,.int .i64 x.a,.int .i64 x.b]:=bQ.aL;have k6:Kept (λj=>j=wx.heap.size) wx w6:=(Kept.new cI).trans bQ.kept (λ_ _ h=>h);have qD:=eG.aJ k6 (λg' CP h=>by have:=eG.block g' CP;omega);have rO:=oE.kept k6 (by omega);have ZX:=vw.kept k6 (by omega);have ob:Below w.heap.size w w6:=eV.trans (k6.below (by omega) (λ_ h=>by omega));have c6:w6.cell? ⟨wx.heap.size,0,none⟩=some (.int .i64 x.op):=CN.cell rfl;push_cast -dsimp[c6];have Tl:∀w',Kept (λ_=>False) w6 w'->cM (λ_=>False) w' (.agg #[sv,.slice (some ⟨g,0,none⟩) c.ins.length gc]) (ak c i):=λw' CS =>
   nu (sets:=c.sets) (base:=w2.heap.size) (λ_ h=>h.elim) (dq.below (w:=w6) (dq.below tE ob) (CS.below (Nat.le_refl _) (λ_ h=>h.elim))) (qD.aJ CS (λ_ _ h=>h)) A0
  have jD:(ak c (i+1)).ins=(ak c i).ins.set i (bP (ak c i) x):=by
   rw[ak];unfold fQ;rw[hx]
  refine⟨λh3=>?_,λh3=>?_⟩
  ·have hj:=iV hCi hx h3;have GL:x.a=((x.a.toNat:Nat):Int):=by rw[Int.toNat_of_nonneg hj.1]
   have ey:bP (ak c i) x=⟨x.op,gS (ak c i) x.a.toNat,x.b⟩:=by unfold bP;rw[if_pos h3]
   refine dV (λw'=>aM w' w.heap.size 127 [sv,.slice (some ⟨g,0,none⟩) c.ins.length gc]/\aM w' wx.heap.size 164 [.int .i64 x.op,.int .i64 x.a,.int .i64 x.b]) mixed (by kernel_rfl) (List.cons_ne_nil _ _) ⟨rO.drew,CN.drew⟩ ?_;have q1:w6.drew.cell? ⟨w.heap.size,1,none⟩=some (.slice (some ⟨g,0,none⟩) c.ins.length gc):=rO.drew.cell rfl;have q2:w6.drew.cell? ⟨wx.heap.size,1,none⟩=some (.int .i64 x.a):=CN.drew.cell rfl;have q3:=rO.drew.aB;simp only[List.length_cons,List.length_nil,Nat.zero_add,Nat.reduceAdd]at q3;push_cast -dsimp[q1,q2,q3];refine⟨λbB hC=>fZ hC.1 rfl,λbB hC=>Gr hC.1 rfl rfl,λbB hC=>fZ hC.2 rfl,?_⟩;have Z5:Kept (λ_=>False) w6 w6.drew:=(Kept.refl _ _).drew;rw[GL];refine aA (WC (ak c i) hCi x.a.toNat (by omega) (λ_=>False) _ _ (Tl _ Z5)) ?_;rintro _ w7 ⟨rfl,lq⟩;have qC:Kept (λ_=>False) w6 w7:=Z5.trans (Kept.aN lq (λj h1 h2=>absurd h2 (by omega))) (λ_ _ h=>h);have K1:=qC.size;have mQ:=qD.aJ qC (λ_ _ h=>h);have Ib:=rO.kept qC id;have yP:=CN.kept qC id;have Ig:=ZX.kept qC id;have AR:Below w.heap.size w w7:=ob.trans (qC.below (by omega) (λ_ h=>h.elim));rw[<-GL];refine⟨⟨Ib,yP⟩,?_⟩;push_cast -dsimp;refine⟨⟨by omega,by omega⟩,?_⟩;refine fw (i:=i) (f:=1) (y:=bP (ak c i) x) mQ rfl hx (by omega) (by rw[ey];rfl) rfl ?_;intro w8 rQ Kx sz8;rw[<-jD]at rQ;have ZQ:=Ib.kept Kx (by omega);have hR8:=Ig.kept Kx (by omega);have mh:Below w.heap.size w w8:=AR.trans (Kx.below (by omega) (λ_ h=>by omega));push_cast -dsimp
   exact⟨⟨by omega,by omega⟩,⟨i+1,rfl,by omega,rQ,ZQ,hR8,mh,by omega⟩,by rw[h14];simp only[intOf];omega⟩
  refine⟨λh2=>?_,λh2=>?_⟩
  ·have hj:=mS hCi hx h2;have GL:x.a=((x.a.toNat:Nat):Int):=by rw[Int.toNat_of_nonneg hj.1]
   have Qz:x.b=((x.b.toNat:Nat):Int):=by rw[Int.toNat_of_nonneg hj.2.2.1]
   refine b8 (λw'=>aM w' w.heap.size 127 [sv,.slice (some ⟨g,0,none⟩) c.ins.length gc]/\aM w' wx.heap.size 164 [.int .i64 x.op,.int .i64 x.a,.int .i64 x.b]) mixed (by kernel_rfl) ⟨rO.drew,CN.drew⟩ ?_;have q1:w6.drew.cell? ⟨wx.heap.size,2,none⟩=some (.int .i64 x.b):=CN.drew.cell rfl;have q2:w6.drew.cell? ⟨wx.heap.size,1,none⟩=some (.int .i64 x.a):=CN.drew.cell rfl;have q3:=rO.drew.aB;simp only[List.length_cons,List.length_nil,Nat.zero_add,Nat.reduceAdd]at q3;push_cast -dsimp[q1,q2,q3];refine⟨λbB hC=>Gr hC.1 rfl rfl,λbB hC=>fZ hC.2 rfl,?_⟩;have Z5:Kept (λ_=>False) w6 w6.drew:=(Kept.refl _ _).drew;rw[GL];refine aA (WC (ak c i) hCi x.a.toNat (by omega) (λ_=>False) _ _ (Tl _ Z5)) ?_;rintro _ w7 ⟨rfl,lq⟩;have qC:Kept (λ_=>False) w6 w7:=Z5.trans (Kept.aN lq (λj h1 h2=>absurd h2 (by omega))) (λ_ _ h=>h);have K1:=qC.size;have mQ:=qD.aJ qC (λ_ _ h=>h);have Ib:=rO.kept qC id;have yP:=CN.kept qC id;have Ig:=ZX.kept qC id;have AR:Below w.heap.size w w7:=ob.trans (qC.below (by omega) (λ_ h=>h.elim));rw[<-GL];refine⟨⟨Ib,yP⟩,?_⟩;have q4:=Ib.aB;have q5:w7.cell? ⟨wx.heap.size,2,none⟩=some (.int .i64 x.b):=yP.cell rfl;simp only[List.length_cons,List.length_nil,Nat.zero_add,Nat.reduceAdd]at q4;push_cast -dsimp[q4,q5];refine⟨λbB hC=>Gr hC.1 rfl rfl,λbB hC=>fZ hC.2 rfl,?_⟩;rw[Qz];refine aA (WC (ak c i) hCi x.b.toNat (by omega) (λ_=>False) _ _ (Tl _ qC)) ?_;rintro _ w8 ⟨rfl,mh⟩;have Kx:Kept (λ_=>False) w6 w8:=qC.trans (Kept.aN mh (λj h1 h2=>absurd h2 (by omega))) (λ_ _ h=>h);have sz8:=Kx.size
   have rQ:=qD.aJ Kx (λ_ _ h=>h);have ZQ:=rO.kept Kx id;have hT8:=CN.kept Kx id;have hR8:=ZX.kept Kx id;have Iq:Below w.heap.size w w8:=ob.trans (Kx.below (by omega) (λ_ h=>h.elim));rw[<-Qz];refine⟨⟨ZQ,hT8⟩,?_⟩;push_cast -dsimp;refine b8 (λw'=>aM w' w.heap.size 127 [sv,.slice (some ⟨g,0,none⟩) c.ins.length gc]) mixed (by kernel_rfl) ZQ.drew ?_;have q6:w8.drew.cell? ⟨w.heap.size,1,none⟩=some (.slice (some ⟨g,0,none⟩) c.ins.length gc):=ZQ.drew.cell rfl;push_cast -dsimp[q6];refine⟨λbB hC=>fZ hC rfl,λbB hC=>fZ hC rfl,⟨by omega,by omega⟩,?_⟩;have aOx:=rQ.aJ (Kept.refl (λ_=>False) _).drew (λ_ _ h=>h);refine fw (i:=i) (f:=1) (y:=⟨x.op,gS (ak c i) x.a.toNat,x.b⟩) aOx rfl hx (by omega) rfl rfl ?_;intro w9 yV Wp sz9;have CJ:=ZQ.drew.kept Wp (by omega);have hR9:=hR8.drew.kept Wp (by omega);have lS:Below w.heap.size w w9:=Iq.drew.trans (Wp.below (by show w.heap.size<=w8.heap.size;omega) (λ_ h=>by omega))
   have aVm:w9.heap.size=w8.heap.size:=sz9;refine⟨CJ,?_⟩;push_cast -dsimp;refine⟨⟨by omega,by omega⟩,?_⟩;have hx9:((ak c i).ins.set i ⟨x.op,gS (ak c i) x.a.toNat,x.b⟩)[i]?=some ⟨x.op,gS (ak c i) x.a.toNat,x.b⟩:=by rw[List.getElem?_set,if_pos rfl,if_pos (by omega)]
   refine fw (i:=i) (f:=2) (y:=⟨x.op,gS (ak c i) x.a.toNat,gS (ak c i) x.b.toNat⟩) yV rfl hx9 (by omega) rfl rfl ?_;intro Tz aBg aFw aVl;rw[List.set_set]at aBg;have aAy:=CJ.kept aFw (by omega);have aIW:=hR9.kept aFw (by omega);have Qw:Below w.heap.size w Tz:=lS.trans (aFw.below (by omega) (λ_ h=>by omega));have q7:Tz.cell? ⟨w.heap.size,1,none⟩=some (.slice (some ⟨g,0,none⟩) c.ins.length gc):=aAy.cell rfl;refine⟨aAy,?_⟩;push_cast -dsimp[q7];refine⟨λhe=>?_,λhe=>?_⟩
   ·have Wi:gS (ak c i) x.a.toNat=gS (ak c i) x.b.toNat:=by omega
    have ey:bP (ak c i) x=⟨3,gS (ak c i) x.a.toNat,0⟩:=by unfold bP;rw[if_neg h3,if_pos h2,if_pos Wi]
    refine⟨⟨by omega,by omega⟩,?_⟩;refine TR (k:=3) (i:=i) (y:=bP (ak c i) x) (by kernel_rfl) aBg rfl (by rw[List.length_set];omega) (by rw[ey];rfl) (by simp[Value.oneCell']) ?_;intro T9 JK aFx aK1;rw[List.set_set,<-jD]at JK;have aMr:=aAy.kept aFx (by omega);have aMU:=aIW.kept aFx (by omega);have aNi:Below w.heap.size w T9:=Qw.trans (aFx.below (by omega) (λ_ h=>by omega));push_cast -dsimp;exact⟨⟨by omega,by omega⟩,⟨i+1,rfl,by omega,JK,aMr,aMU,aNi,by omega⟩,by rw[h14];simp only[intOf];omega⟩
   have Wi:¬gS (ak c i) x.a.toNat=gS (ak c i) x.b.toNat:=by omega
   have ey:bP (ak c i) x=⟨x.op,gS (ak c i) x.a.toNat,gS (ak c i) x.b.toNat⟩:=by unfold bP;rw[if_neg h3,if_pos h2,if_neg Wi]
   rw[<-ey,<-jD]at aBg;exact⟨⟨by omega,by omega⟩,⟨i+1,rfl,by omega,aBg,aAy,aIW,Qw,by omega⟩,by rw[h14];simp only[intOf];omega⟩
  have ey:bP (ak c i) x=x:=by unfold bP;rw[if_neg h3,if_neg h2]
  have e:(ak c (i+1)).ins=(ak c i).ins:=by
   rw[jD,ey];apply List.ext_getElem?;intro j;rw[List.getElem?_set];split
   ·rename_i e;subst e;rw[if_pos (by omega),hx]
   rfl
  rw[<-e]at qD;exact⟨⟨by omega,by omega⟩,⟨i+1,rfl,by omega,qD,rO,ZX,ob,by omega⟩,by rw[h14];simp only[intOf];omega⟩
 have nG:i=c.ins.length:=by omega
 subst nG;have q3:=oE.aB;simp only[List.length_cons,List.length_nil,Nat.zero_add,Nat.reduceAdd]at q3;push_cast -dsimp[q3];refine aH (n:=2) (by kernel_rfl) vw rfl (by simp) (by simp[aOZ,Value.oneCell']) ?_;intro w5 cI;have NQ:=cI.size;have q5:aB w5 ⟨w1.heap.size,0,none⟩ 0 2=some [sv,.slice (some ⟨g,0,none⟩) c.ins.length gc]:=cI.aL.aB;push_cast -dsimp[q5];have aJo:Below w.heap.size w w5:=eV.trans (cI.kept.below (by omega) (λ_ h=>by omega));exact⟨nu (sets:=c.sets) (λb h=>by have:=hX b h;omega) (dq.below aKn aJo) (eG.aJ cI.kept (λg' CP h=>by have:=eG.block g' CP;omega)) A0,aJo⟩
end Go.Proofs.YtemjejfpadnljaaGreatDoor
namespace Go.Proofs.YtemjejfpadnljaaGreatDoor
open Go.Vc Go.Proofs Go.RowKit Cae
attribute [local irreducible] cZ ab ai aX runK ar Sl Vc.Own vc aS bu aZ
def gX (n:Nat)(q:List Nat):List Value:=(List.range n).map λi=>.bool (decide (i∈q))
theorem oV {n:Nat}{q:List Nat}{k:Nat}(hk:k<n):(gX n q)[k]?=some (.bool (decide (k∈q))):=by
 simp[gX,hk]
theorem TD {n:Nat}{q:List Nat}{k:Nat}(hk:k<n):(gX n q).set k (.bool true)=gX n (q++[k]):=by
 apply List.ext_getElem?;intro i;rw[List.getElem?_set];by_cases hi:i<n
 ·rw[oV hi,oV hi];split
  ·rename_i e;subst e;rw[if_pos (by simpa[gX] using hk)];simp
  rename_i e;congr 2;rw[decide_eq_decide];simp only[List.mem_append,List.mem_singleton];constructor
  ·intro h;exact .inl h
  rintro(h|h)
  ·exact h
  exact absurd h.symm e
 have h1:(gX n q)[i]?=none:=List.getElem?_eq_none (by simp[gX];omega);have h2:(gX n (q++[k]))[i]?=none:=List.getElem?_eq_none (by simp[gX];omega);rw[h1,h2,if_neg (by omega)]
def Th (w:World)(p n:Nat)(q:List Nat)(F:Nat->Prop):Prop :=
 ∃lv sb,aM w p 184 [lv,.slice (some ⟨sb,0,none⟩) n n]/\Vc.Own 0 3 1 bH w lv q/\aM w sb 4 (gX n q)/\p≠sb/\(∀g,lv.ownBlock=some g->g≠p/\g≠sb/\F g)/\F p/\F sb/\bg n q
theorem Th.kept {w w':World}{p n:Nat}{q:List Nat}{F X:Nat->Prop}(h:Th w p n q F)(hk:Kept X w w')(hX:∀k,F k->¬X k):Th w' p n q F:=by
 obtain⟨lv,sb,h1,h2,h3,h4,h5,h6,h7,h8⟩:=h;exact⟨lv,sb,h1.kept hk (hX p h6),h2.aJ hk (λg hg=>hX g (h5 g hg).2.2),h3.kept hk (hX sb h7),h4,h5,h6,h7,h8⟩
theorem aEc (p n:Nat)(q:List Nat)(F:Nat->Prop)(k:Nat)(hk:k<n)(hn:n<1000000)(w:World)(h:Th w p n q F) :
  ar Tryz.prog 89 [.pointer (some ⟨p,0,none⟩),.int .i64 k] w λ_ w'=>Kept F w w'/\Th w' p n (jN q k) (λj=>F j\/w.heap.size<=j):=by
 obtain⟨lv,sb,hp,hl,hs,cY,hg,hFp,hFs,hP⟩:=h;have c0:w.cell? ⟨p,0,none⟩=some lv:=hp.cell rfl;have c1:w.cell? ⟨p,1,none⟩=some (.slice (some ⟨sb,0,none⟩) n n):=hp.cell rfl;have cs:w.cell? ⟨sb,k,none⟩=some (.bool (decide (k∈q))):=hs.cell (oV hk);refine aE Tryz.func89 rfl (by kernel_rfl) [] rfl ?_;push_cast -dsimp(maxSteps:=9^7) [Tryz.ntmps89];push_cast -dsimp[c1,cs];refine⟨⟨by omega,by omega⟩,?_⟩;have hql:=hP.len;refine⟨λH7=>⟨⟨by omega,by omega⟩,?_⟩,λH7=>?_⟩
 ·have H7:k ∉ q:=H7;refine aC hs (by simp[gX];exact hk) rfl ?_;intro w1 aU;rw[TD hk]at aU;have H9:=hp.kept aU.kept (by exact cY);have d0:w1.cell? ⟨p,0,none⟩=some lv:=H9.cell rfl;have vX:=hl.aJ aU.kept (λg CP=>(hg g CP).2.1);push_cast -dsimp[d0];refine cH bo rfl rfl (by omega) ?_;intro w2 bJ;push_cast -dsimp;have hp2:=H9.kept (Kept.new bJ (X:=λ_=>False)) id;have gZ:=aU.aL.kept (Kept.new bJ (X:=λ_=>False)) id;have aUP:=bJ.size;have aO0:=aU.size;refine aW (base:=0) [k] (enc:=bH) bo (vX.new bJ) rfl (λj u hu=>by simpa using bJ.cell hu) (by simp[bH,Value.oneCell']) (by simp only[List.length_cons,List.length_nil];omega) (Nat.zero_le _) ?_;intro v' w3 mP OF hn3;have hgk:Kept (λj=>lv.ownBlock=some j) w2 w3:=Kept.grown OF (λ_ h=>h);have hp3:=hp2.kept hgk (λh=>(hg _ h).1 rfl);have lW:=gZ.kept hgk (λh=>(hg _ h).2.1 rfl);obtain⟨a3,c3,hv3⟩:=mP.slice;subst hv3;push_cast -dsimp;refine aC hp3 (by simp) rfl ?_;intro w4 ah;push_cast -dsimp;have k1:Kept F w w1:=aU.kept.weaken (λi _ h=>by subst h;exact hFs);have k2:Kept F w w2:=k1.trans (Kept.new bJ (X:=λ_=>False)) (λ_ _ h=>h.elim);have k3:Kept F w w3:=k2.trans hgk (λi _ h=>(hg i h).2.2);have k4:Kept F w w4:=k3.trans ah.kept (λi _ h=>by subst h;exact hFp);have RQ:∀g,(Value.slice a3 (q++[k]).length c3).ownBlock=some g->g≠p/\g≠sb/\(F g\/w.heap.size<=g):=λg Kv=>by
   rcases hn3 g Kv with h|h
   ·exact⟨(hg g h).1,(hg g h).2.1,.inl (hg g h).2.2⟩
   have:=hp.lt;have:=hs.lt;exact⟨by omega,by omega,.inr (by omega)⟩
  have e:jN q k=q++[k]:=by unfold jN;rw[if_neg H7]
  refine⟨k4,_,sb,ah.aL,?_,by rw[e];exact lW.kept ah.kept (λh=>cY h.symm),cY,RQ,.inl hFp,.inl hFs,hP.add hk⟩;rw[e];exact mP.aJ ah.kept (λg Kv h=>(RQ g Kv).1 h)
 have H7:k∈q:=Classical.byContradiction H7;have e:jN q k=q:=by unfold jN;rw[if_pos H7]
 refine⟨Kept.refl _ _,?_⟩;rw[e];exact⟨lv,sb,hp,hl,hs,cY,λg h=>⟨(hg g h).1,(hg g h).2.1,.inl (hg g h).2.2⟩,.inl hFp,.inl hFs,hP⟩
theorem TE {n:Nat}{q:List Nat}{k:Nat}(hk:k<n):(gX n q).set k (.bool false)=gX n (q.filter (·≠k)):=by
 apply List.ext_getElem?;intro i;rw[List.getElem?_set];by_cases hi:i<n
 ·rw[oV hi,oV hi];split
  ·rename_i e;subst e;rw[if_pos (by simpa[gX] using hk)];simp
  rename_i e;congr 2;rw[decide_eq_decide];simp only[List.mem_filter,decide_eq_true_eq];constructor
  ·intro h;exact⟨h,λh=>e h.symm⟩
  exact λh=>h.1
 have h1:(gX n q)[i]?=none:=List.getElem?_eq_none (by simp[gX];omega);have h2:(gX n (q.filter (·≠k)))[i]?=none:=List.getElem?_eq_none (by simp[gX];omega);rw[h1,h2,if_neg (by omega)]
theorem aAd (p n:Nat)(q:List Nat)(F:Nat->Prop)(hn:n<1000000)(w:World)(h:Th w p n q F) :
  ar Tryz.prog 91 [.pointer (some ⟨p,0,none⟩)] w λ_ w'=>Kept F w w'/\Th w' p n [] F:=by
 obtain⟨lv,sb,hp,hl,hs,cY,hg,hFp,hFs,hP⟩:=h;have c0:w.cell? ⟨p,0,none⟩=some lv:=hp.cell rfl;obtain⟨a,cp,rfl⟩:=hl.slice;have hql:=hP.len;have pD:=hl.sl;refine aE Tryz.func91 rfl (by kernel_rfl) [] rfl ?_;push_cast -dsimp(maxSteps:=9^7) [Tryz.ntmps91];push_cast -dsimp[c0];refine aK [3,9,10,11,12,13,14,15,16,17,18,19] (λz wx=>∃(i:Nat),z 9=.int .i64 i/\i<=q.length/\Kept (·=sb) w wx/\aM wx sb 4 (gX n (q.drop i))) (λz _=>q.length-(intOf (z 9)).toNat) ?_ ?_
 ·exact⟨0,rfl,Nat.zero_le _,Kept.refl _ _,hs⟩
 intro z wx hI;obtain⟨i,h9,hi,hk,hB⟩:=hI;have hpx:=hp.kept hk cY;have d1:wx.cell? ⟨p,1,none⟩=some (.slice (some ⟨sb,0,none⟩) n n):=hpx.cell rfl;have d0:wx.cell? ⟨p,0,none⟩=some (.slice a q.length cp):=hpx.cell rfl;have JH:=hl.aJ hk (λg CP h=>(hg g CP).2.1 h);push_cast -dsimp[h9];refine⟨λao=>?_,λeY=>?_⟩
 ·obtain⟨x,hx,mR,hd,ht⟩:=ae (l:=q) (i:=i) (by omega);obtain⟨b,o,rfl,hX,aP⟩:=JH.sl.get hx;have cx:wx.cell? ⟨b,o+i,none⟩=some (.int .i64 x):=by simpa using aP 0 _ rfl
  have hxn:=hP.2 x mR;push_cast -dsimp[cx,d1];refine⟨⟨by omega,by omega⟩,⟨by omega,by omega⟩,?_⟩;refine aC hB (by simp[gX];exact hxn) rfl ?_;intro w1 aU;rw[TE hxn]at aU;push_cast -dsimp;refine⟨⟨by omega,by omega⟩,⟨i+1,rfl,by omega,hk.trans aU.kept (λ_ _ h=>h),?_⟩,by rw[h9];simp only[intOf];omega⟩;have e:gX n ((q.drop i).filter (·≠x))=gX n (q.drop (i+1)):=by
   have hnd:(q.drop i).Nodup:=hP.1.sublist (List.drop_sublist _ _);rw[hd]at hnd ⊢
   rw[List.filter_cons_of_neg (by simp)];have:(q.drop (i+1)).filter (·≠x)=q.drop (i+1):=List.filter_eq_self.2 (λy hy=>by
    have:=(List.nodup_cons.1 hnd).1;simp only[decide_eq_true_eq];intro h;subst h;exact this hy)
   rw[this]
  rw[e]at aU;exact aU.aL
 rw[List.drop_eq_nil_of_le (by omega)]at hB;push_cast -dsimp[d0];have kF:∀a' c',Vc.Own 0 3 1 bH wx (.slice a' 0 c') []->(∀g,(Value.slice a' 0 c').ownBlock=some g->(Value.slice a q.length cp).ownBlock=some g)->∀w2,yd wx w2 p 184 [.slice a' 0 c',.slice (some ⟨sb,0,none⟩) n n]->Kept F w w2/\Th w2 p n [] F:=λa' c' ho Kv w2 bJ=>by
  refine⟨(hk.weaken (λi _ h=>by subst h;exact hFs)).trans bJ.kept (λi _ h=>by subst h;exact hFp),_,sb,bJ.aL,ho.aJ bJ.kept (λg h1 h2=>(hg g (Kv g h1)).1 h2),hB.kept bJ.kept (λh=>cY h.symm),cY,λg h1=>hg g (Kv g h1),hFp,hFs,bg.nil n⟩
 rcases JH.cut with ⟨rfl,hq0,rfl,rfl⟩|⟨g,rfl,_,hle,lT⟩
 ·push_cast -dsimp;refine aC hpx (by simp) rfl ?_;intro w2 bJ;push_cast -dsimp;exact kF none 0 JH (λg h=>h) w2 bJ
 push_cast -dsimp;refine⟨by omega,aC hpx (by simp) rfl ?_⟩;intro w2 bJ;push_cast -dsimp;exact kF _ cp (lT 0 (Nat.zero_le _)) (λg h=>h) w2 bJ
def CH (D:Nat->Prop)(w:World)(pA pB n:Nat)(q nx:List Nat):Prop :=
 ∃FA FB,Th w pA n q FA/\Th w pB n nx FB/\(∀j,FA j->¬FB j)/\(∀j,FA j->D j/\j<w.heap.size)/\(∀j,FB j->D j/\j<w.heap.size)
theorem CH.swap {D:Nat->Prop}{w:World}{pA pB n:Nat}{q nx:List Nat}(h:CH D w pA pB n q nx):CH D w pB pA n nx q:=by
 obtain⟨FA,FB,h1,h2,h3,h4,h5⟩:=h;exact⟨FB,FA,h2,h1,λj hb ha=>h3 j ha hb,h5,h4⟩
theorem CH.kept {D X:Nat->Prop}{w w':World}{pA pB n:Nat}{q nx:List Nat}(h:CH D w pA pB n q nx)(hk:Kept X w w')(hX:∀j,D j->j<w.heap.size->¬X j):CH D w' pA pB n q nx:=by
 obtain⟨FA,FB,h1,h2,h3,h4,h5⟩:=h;have hs:=hk.size;exact⟨FA,FB,h1.kept hk (λj hj=>hX j (h4 j hj).1 (h4 j hj).2),h2.kept hk (λj hj=>hX j (h5 j hj).1 (h5 j hj).2),h3,λj hj=>⟨(h4 j hj).1,by have:=(h4 j hj).2;omega⟩,λj hj=>⟨(h5 j hj).1,by have:=(h5 j hj).2;omega⟩⟩
theorem CH.narrow {D D':Nat->Prop}{w:World}{pA pB n:Nat}{q nx:List Nat}(h:CH D w pA pB n q nx)(hD:∀j,D j->j<w.heap.size->D' j):CH D' w pA pB n q nx:=by
 obtain⟨FA,FB,h1,h2,h3,h4,h5⟩:=h;exact⟨FA,FB,h1,h2,h3,λj hj=>⟨hD j (h4 j hj).1 (h4 j hj).2,(h4 j hj).2⟩,λj hj=>⟨hD j (h5 j hj).1 (h5 j hj).2,(h5 j hj).2⟩⟩
theorem CH.places {D:Nat->Prop}{w:World}{pA pB n:Nat}{q nx:List Nat}(h:CH D w pA pB n q nx):bg n q/\bg n nx:=by
 obtain⟨FA,FB,⟨_,_,_,_,_,_,_,_,_,h1⟩,⟨_,_,_,_,_,_,_,_,_,h2⟩,_⟩:=h;exact⟨h1,h2⟩
theorem CH.read {D:Nat->Prop}{w:World}{pA pB n:Nat}{q nx:List Nat}(h:CH D w pA pB n q nx):∃a c,w.cell? ⟨pA,0,none⟩=some (.slice a q.length c)/\Sl (λ_=>False) 1 (En bH) w (.slice a q.length c) q:=by
 obtain⟨FA,FB,⟨lv,sb,hp,hl,_⟩,_⟩:=h;obtain⟨a,c,rfl⟩:=hl.slice;exact⟨a,c,hp.cell rfl,hl.sl.weaken (λ_ h=>h.elim)⟩
theorem oX {D:Nat->Prop}{w:World}{pA pB n:Nat}{q nx:List Nat}(h:CH D w pA pB n q nx){k:Nat}(hk:k<n)(hn:n<1000000) :
  ar Tryz.prog 89 [.pointer (some ⟨pA,0,none⟩),.int .i64 k] w λ_ w'=>CH (λj=>D j\/w.heap.size<=j) w' pA pB n (jN q k) nx/\Kept D w w':=by
 obtain⟨FA,FB,h1,h2,h3,h4,h5⟩:=h;refine(aEc pA n q FA k hk hn w h1).mono ?_;rintro _ w' ⟨CS,hT⟩;have hs:=CS.size;refine⟨⟨λj=>(FA j\/w.heap.size<=j)/\j<w'.heap.size,FB,?_,h2.kept CS (λj hj hh=>h3 j hh hj),λj ⟨hj,_⟩ hb=>?_,λj ⟨hj,hl⟩=>⟨?_,hl⟩,λj hj=>⟨.inl (h5 j hj).1,by have:=(h5 j hj).2;omega⟩⟩,CS.weaken (λi _ hi=>(h4 i hi).1)⟩
 ·obtain⟨lv,sb,g1,g2,g3,g4,g5,g6,g7,g8⟩:=hT;exact⟨lv,sb,g1,g2,g3,g4,λg hg=>⟨(g5 g hg).1,(g5 g hg).2.1,(g5 g hg).2.2,(g2.block g hg).2⟩,⟨g6,g1.lt⟩,⟨g7,g3.lt⟩,g8⟩
 ·rcases hj with hj|hj
  ·exact h3 j hj hb
  have:=(h5 j hb).2;omega
 rcases hj with hj|hj
 ·exact .inl (h4 j hj).1
 exact .inr hj
theorem NY {D:Nat->Prop}{w:World}{pA pB n:Nat}{q nx:List Nat}(h:CH D w pA pB n q nx)(hn:n<1000000) :
  ar Tryz.prog 91 [.pointer (some ⟨pA,0,none⟩)] w λ_ w'=>CH D w' pA pB n [] nx/\Kept D w w':=by
 obtain⟨FA,FB,h1,h2,h3,h4,h5⟩:=h;refine(aAd pA n q FA hn w h1).mono ?_;rintro _ w' ⟨CS,hT⟩;have hs:=CS.size;exact⟨⟨FA,FB,hT,h2.kept CS (λj hj hh=>h3 j hh hj),h3,λj hj=>⟨(h4 j hj).1,by have:=(h4 j hj).2;omega⟩,λj hj=>⟨(h5 j hj).1,by have:=(h5 j hj).2;omega⟩⟩,CS.weaken (λi _ hi=>(h4 i hi).1)⟩
theorem xd {P:Program}{bt e:TypeId}{bytes:Nat}{z:Value}{n:Nat}{t:Fr}{w:World}{K:VK}{Q:EP}{p}(hE:CI P bt=some (e,1,bytes))(hz:(P.info? e).bind (·.zero)=some z)(hz1:jv z=true)(hb:bytes*n<=281474976710656)(hn:n<=140737488355328)
  (kk:∀w',mj w w' e (List.replicate n z)->K (.slice (some ⟨w.heap.size,0,none⟩) n n) w'):ai P (Instr.makeSlice bt (.int .i64 n) (.int .i64 n)) t w K Q p:=by
 obtain⟨hu,i,z',hi,hz',hk,rfl,Ts,_,_⟩:=ny hE;rw[hi]at hz;simp only[Option.bind_some]at hz;rw[hz']at hz;cases hz
 have:=run_make (P:=P) w bt e i z hu hi hz' .i64 .i64 n n (by omega) (Int.le_refl _) (by rw[<-Int.natCast_mul];omega) (by omega);refine fh this ?_;simp only[Int.toNat_natCast];refine kk _ ⟨?_⟩;congr 2;have hzc:z.cells=#[z]:=by cases z<;>simp_all [jv,Value.cells]
 rw[hzc,hk];apply Array.ext';simp only[madeCells,Array.toList_map,Array.toList_range];apply List.ext_getElem?;intro j;simp only[List.getElem?_map,List.getElem?_replicate,Nat.mul_one];by_cases hj:j<n
 ·simp[hj,Nat.mod_one]
 simp[hj]
def sV (c:aD)(is:List Bool)(wt:List Nat):Prop:=(is[0]?=some true\/0∈wt)/\∀(i:Nat) (x:I3),is[i]?=some true->c.ins[i]?=some x->∀j,ti c x i j->is[j]?=some true\/j∈wt
theorem sV.skip {c:aD}{is:List Bool}{r:List Nat}{k:Nat}(h:sV c is (r++[k]))(hk:is[k]?=some true):sV c is r:=by
 have hm:∀j,j∈r++[k]->is[j]?=some true\/j∈r:=λj hj=>by
  rw[List.mem_append,List.mem_singleton]at hj;rcases hj with hj|rfl
  ·exact .inr hj
  exact .inl hk
 exact⟨h.1.elim .inl (hm 0),λi x h1 h2 j hj=>(h.2 i x h1 h2 j hj).elim .inl (hm j)⟩
theorem sV.step {c:aD}{is:List Bool}{r ys:List Nat}{k:Nat}{x:I3}(h:sV c is (r++[k]))(hk:k<is.length)(hx:c.ins[k]?=some x)(hy:∀j,ti c x k j->j∈ys):sV c (is.set k true) (r++ys):=by
 have tD:∀j:Nat,is[j]?=some true->(is.set k true)[j]?=some true:=λj hj=>by
  rw[List.getElem?_set];by_cases e:k=j
  ·rw[if_pos e,if_pos hk]
  rw[if_neg e];exact hj
 have hm:∀j,j∈r++[k]->(is.set k true)[j]?=some true\/j∈r++ys:=λj hj=>by
  rw[List.mem_append,List.mem_singleton]at hj;rcases hj with hj|rfl
  ·exact .inr (List.mem_append.2 (.inl hj))
  exact .inl (by rw[List.getElem?_set,if_pos rfl,if_pos hk])
 refine⟨h.1.elim (λh=>.inl (tD 0 h)) (hm 0),λi y h1 h2 j hj=>?_⟩;by_cases e:i=k
 ·subst e;rw[hx]at h2;cases h2;exact .inr (List.mem_append.2 (.inr (hy j hj)))
 rw[List.getElem?_set,if_neg (λh=>e h.symm)]at h1;exact(h.2 i y h1 h2 j hj).elim (λh=>.inl (tD j h)) (hm j)
theorem sV.done {c:aD}{is:List Bool}(h:sV c is [])(hl:is.length=c.ins.length):sS c is :=
 ⟨hl,h.1.elim id (λh=>by cases h),λi x h1 h2 j hj=>(h.2 i x h1 h2 j hj).elim id (λh=>by cases h)⟩
def xZ (is:List Bool):List Value:=is.map .bool
def cntF (w:World)(sb:Nat):Nat:=match w.heap[sb]? with
 | some (.cells cs _ _)=>(cs.toList.filter (λv=>match v with|.bool false=>true|_=>false)).length
 | _=>0
def JX:Value->Nat
 | .slice _ n _=>n
 | _=>0
theorem gJ {w:World}{sb:Nat}{e:TypeId}{is:List Bool}(h:aM w sb e (xZ is)):cntF w sb=(is.filter (! ·)).length:=by
 unfold cntF;rw[show w.heap[sb]?=_ from h]
 simp only[xZ];clear h;induction is with
 | nil=>rfl
 | cons b l ih =>
  cases b<;>simp[List.filter_cons]at ih ⊢<;>exact ih
theorem fj:∀(is:List Bool) (k:Nat),is[k]?=some false->((is.set k true).filter (! ·)).length+1=(is.filter (! ·)).length
 | [],k,h=>by simp at h
 | b::l,0,h=>by simp at h;subst h;simp
 | b::l,k+1,h=>by
  have:=fj l k (by simpa using h);cases b<;>simp[List.filter_cons]<;>omega
theorem Sj (c:aD)(hc:CR c)(v:Value)(w:World)(hv:cM (λ_=>False) w v c) :
  ar Tryz.prog 140 [v] w λr w'=>(∃is sb,r=.slice (some ⟨sb,0,none⟩) c.ins.length c.ins.length/\aM w' sb 4 (xZ is)/\sS c is/\w.heap.size<=sb)/\Below w.heap.size w w':=by
 have hm:=hc.many;have sw:=hc.one;have CZ:=hv;obtain⟨sv,iv,rfl,tE,td⟩:=hv;obtain⟨a,cp,rfl,RG⟩:=td.shape;have G0:=tE.shape;obtain⟨sa,sc,rfl,CY⟩:=G0;refine aE Tryz.func140 rfl (by kernel_rfl) [2] rfl ?_;push_cast -dsimp(maxSteps:=9^7) [Tryz.ntmps140];refine aR ?_;intro w1 aU;have aU:mj w w1 127 [.slice sa c.sets.length sc,.slice a c.ins.length cp]:=aU;have pY:=aU.size;have c0:w1.cell? ⟨w.heap.size,1,none⟩=some (.slice a c.ins.length cp):=aU.cell rfl;push_cast -dsimp[c0];refine xd (z:=.bool false) ou (by kernel_rfl) rfl (by omega) (by omega) ?_;intro w2 bJ;have Bn:=bJ.size;push_cast -dsimp;refine cH bo rfl rfl (by omega) ?_;intro w3 cN;have LF:=cN.size;have mP:=cN.own (base:=w2.heap.size) (k:=1) (n:=1) (enc:=bH) (l:=[0]) rfl rfl (λ_=>rfl) (Nat.le_refl _) (by omega);have Ly:aM w3 w1.heap.size 4 (xZ (List.replicate c.ins.length false)):=by
  have:=bJ.aL.below cN.below (by omega);unfold xZ;rw[List.map_replicate];exact this
 have hC3:aM w3 w.heap.size 127 [.slice sa c.sets.length sc,.slice a c.ins.length cp]:=(aU.aL.below bJ.below (by omega)).below cN.below (by omega);have gV:Below w.heap.size w w3:=aU.below.trans ((bJ.below.mono (by omega)).trans (cN.below.mono (by omega)));push_cast -dsimp;refine aK [4,5,6,12,13,14,15,16,17,18,19,20,21,22,23,24,25,26,27,28,29,30,31,32,33,34,35,36,37,38,39,40,41,42,43,44,45,46,47,48,49,50,51,52,53,54,55,56,57,58,59,60,61,62,63,64,65,66,67,68,69,70,71,72,73,74,75,76,77] (λz wx=>∃(is:List Bool) (wt:List Nat) (wv:Value),z 4=wv/\Vc.Own w2.heap.size 3 1 bH wx wv wt/\aM wx w1.heap.size 4 (xZ is)/\is.length=c.ins.length/\(∀k∈wt,k<c.ins.length)/\sV c is wt/\wt.length+2*(is.filter (! ·)).length<=2*c.ins.length+1 /\
   aM wx w.heap.size 127 [.slice sa c.sets.length sc,.slice a c.ins.length cp]/\Below w.heap.size w wx) (λz wx=>3*cntF wx w1.heap.size+JX (z 4)) ?_ ?_
 ·refine⟨List.replicate c.ins.length false,[0],_,rfl,mP,Ly,by simp,by simp;omega,⟨.inr (by simp),λi x h=>?_⟩,by simp;omega,hC3,gV⟩;rw[List.getElem?_replicate]at h;split at h<;>simp at h
 intro z wx hI;obtain⟨is,wt,wv,h4,eG,oE,JB,hwt,xV,hwl,hCx,eV⟩:=hI;have pD:=eG.slice;obtain⟨wa,wc,rfl⟩:=pD;have ya:=eV.size;have hBl:=oE.lt;rcases List.eq_nil_or_concat wt with rfl|⟨r,k,aKw⟩
 ·push_cast -dsimp[h4];exact⟨⟨is,_,rfl,oE,xV.done JB,by omega⟩,eV⟩
 rw[List.concat_eq_append]at aKw;subst aKw;have Wq:=hwt k (by simp);have lT:=eG.cut;rcases lT with ⟨_,h0,_⟩|⟨g,rfl,_,hle,lT⟩
 ·simp at h0
 have Wf:=lT r.length (by simp);rw[List.take_left]at Wf;have CQ:=eG.block g rfl;have Ky:r.length<=2*c.ins.length:=by rw[List.length_append,List.length_singleton]at hwl;omega
 rw[List.length_append,List.length_singleton]at hle;have h4':z 4=.slice (some ⟨g,0,none⟩) (r.length+1) wc:=by rw[h4,List.length_append];rfl
 have hgk:=eG.sl.get (i:=r.length) (x:=k) (by rw[List.getElem?_append_right (Nat.le_refl _),Nat.sub_self];rfl);obtain⟨b,o,e,_,aP⟩:=hgk;cases e;have cw:wx.cell? ⟨g,r.length,none⟩=some (.int .i64 k):=by simpa using aP 0 _ rfl
 have hgi:=ae (l:=is) (i:=k) (by omega);obtain⟨bk,hbk,_⟩:=hgi;have ck:wx.cell? ⟨w1.heap.size,k,none⟩=some (.bool bk):=oE.cell (by unfold xZ;rw[List.getElem?_map,hbk];rfl);have il:=ae (l:=c.ins) (i:=k) Wq;obtain⟨x,hx,_⟩:=il;have hC1:wx.cell? ⟨w.heap.size,1,none⟩=some (.slice a c.ins.length cp):=hCx.cell rfl;have aNX:=(td.below eV).get hx;obtain⟨ib,io,rfl,_,hic⟩:=aNX;have ci:aB wx ⟨ib,io+k*3,none⟩ 0 3=some (bR x):=aj (bR x) 0 (λj u hu=>by simpa using hic j u hu);unfold bR at ci;cases bk with
 | true =>
  push_cast -dsimp[h4',Int.add_sub_cancel,cw,ck,hC1];refine⟨λ_=>⟨⟨by omega,by omega⟩,⟨by omega,by omega⟩,⟨by omega,by omega⟩,⟨by omega,by omega⟩,?_⟩,λh=>absurd h (by omega)⟩;exact⟨⟨by omega,by omega⟩,⟨is,r,_,rfl,Wf,oE,JB,λj hj=>hwt j (by simp[hj]),xV.skip hbk,by rw[List.length_append]at hwl;omega,hCx,eV⟩,by simp only[JX];omega⟩
 | false =>
  push_cast -dsimp[h4',Int.add_sub_cancel,cw,ck,hC1];refine⟨λ_=>⟨⟨by omega,by omega⟩,⟨by omega,by omega⟩,⟨by omega,by omega⟩,⟨by omega,by omega⟩,?_⟩,λh=>absurd h (by omega)⟩;have kR:=hbk;refine⟨⟨by omega,by omega⟩,⟨by omega,by omega⟩,?_⟩;refine aC oE (by unfold xZ;rw[List.length_map];omega) rfl ?_;intro w4 ah;have Cq:aM w4 w1.heap.size 4 (xZ (is.set k true)):=by
   have:=ah.aL;unfold xZ at this ⊢
   rw[List.map_set];exact this
  have KZ:=ah.size;have hC4:=hCx.kept ah.kept (by omega);have kU:=Wf.aJ ah.kept (λg' CP h=>by have:g=g':=(by simpa[Value.ownBlock] using CP);omega);have nn:Below w.heap.size w w4:=eV.trans (ah.kept.below (by omega) (λ_ h=>by omega));have ci4:aB w4 ⟨ib,io+k*3,none⟩ 0 3=some [.int .i64 x.op,.int .i64 x.a,.int .i64 x.b]:=by
   have Cz:=((td.below nn)).get hx;obtain⟨ib',io',e',_,aN1⟩:=Cz;cases e';exact aj (bR x) 0 (λj u hu=>by simpa using aN1 j u hu)
  have aMx:w4.cell? ⟨w.heap.size,1,none⟩=some (.slice (some ⟨ib,io,none⟩) c.ins.length cp):=hC4.cell rfl;push_cast -dsimp[aMx,ci4];refine⟨⟨by omega,by omega⟩,?_⟩;refine aq (z:=[.int .i64 0,.int .i64 0,.int .i64 0]) (by kernel_rfl) ?_;intro w5 cI;have NQ:=cI.size;push_cast -dsimp;refine aH (n:=3) (by kernel_rfl) cI.aL rfl (by simp) (by simp[Value.oneCell']) ?_;intro w6 bQ;have K0:=bQ.size;have CN:aM w6 w4.heap.size 164 [.int .i64 x.op,.int .i64 x.a,.int .i64 x.b]:=bQ.aL;have k6:Kept (λj=>j=w4.heap.size) w4 w6:=(Kept.new cI).trans bQ.kept (λ_ _ h=>h);have qD:=kU.aJ k6 (λg' CP h=>by have:=kU.block g' CP;omega);have rO:=Cq.kept k6 (by omega);have WR:=hC4.kept k6 (by omega);have ob:Below w.heap.size w w6:=nn.trans (k6.below (by omega) (λ_ h=>by omega));have t0:w6.cell? ⟨w4.heap.size,0,none⟩=some (.int .i64 x.op):=CN.cell rfl;have t1:w6.cell? ⟨w4.heap.size,1,none⟩=some (.int .i64 x.a):=CN.cell rfl;have t2:w6.cell? ⟨w4.heap.size,2,none⟩=some (.int .i64 x.b):=CN.cell rfl;have s0:w6.cell? ⟨w.heap.size,0,none⟩=some (.slice sa c.sets.length sc):=WR.cell rfl;push_cast -dsimp[t0,t1,t2,s0];have OB:=cK (hc.ins k x hx);rcases OB with ⟨e,g1,g2,g3⟩|⟨e,g1,g2,g3,g4⟩|⟨e,g1,g2,g3⟩|⟨e|e,g1,g2⟩
  ·have jD:=hc.next k x hx (.inl e);have GL:x.a=((x.a.toNat:Nat):Int):=by rw[Int.toNat_of_nonneg g1]
   have hgs:=ae (l:=c.sets) (i:=x.a.toNat) (by omega);obtain⟨ss,hss,_⟩:=hgs;have hgs:=Sl.yL (dq.below tE ob) hss;obtain⟨qb,qo,qcs,rfl,_,hqk,hqc,u,rfl,hu⟩:=hgs;have eN:=hu.shape;obtain⟨ua,uc,rfl,_⟩:=eN;have cq:w6.cell? ⟨qb,qo+x.a.toNat,none⟩=some (.slice ua ss.length uc):=by simpa using hqc 0 _ rfl
   have hsd:c.sets.getD x.a.toNat []=ss:=by rw[List.getD_eq_getElem?_getD,hss];rfl
   have ge:decide (x.op=1)=true:=decide_eq_true e;refine⟨λ_=>⟨⟨by omega,by omega⟩,?_⟩,λh=>absurd e h⟩;push_cast -dsimp[cq];refine⟨λyX=>?_,λhzero=>?_⟩
   ·refine⟨⟨by omega,by omega⟩,?_⟩;have hy:∀j,ti c x k j->j∈[k+1]:=λj hj=>by
     rcases hj with ⟨e',_⟩|⟨e',_⟩|⟨e',rfl⟩|⟨e',_,rfl⟩<;>first|(exfalso;omega)|simp
    refine cH bo rfl rfl (by omega) ?_;intro w7 fB;have K1:=fB.size;push_cast -dsimp;refine aW (base:=w2.heap.size) [k+1] (enc:=bH) bo (qD.new fB) (by rfl) (λj u hu=>by simpa[bH] using fB.cell hu) (by simp[bH,Value.oneCell']) (by simp only[List.length_cons,List.length_nil];omega) (by omega) ?_;intro v9 w9 yV Z3 hn9;have Wp:Kept (λj=>j=g) w7 w9:=Kept.grown Z3 (λj h=>by have:g=j:=(by simpa[Value.ownBlock] using h);omega);have k9:Kept (λj=>j=g) w6 w9:=(Kept.new fB).trans Wp (λ_ _ h=>h);have CJ:=rO.kept k9 (by omega);have WS:=WR.kept k9 (by omega);have lS:Below w.heap.size w w9:=ob.trans (k9.below (by omega) (λ_ h=>by omega));have MS:=yV.slice;obtain⟨a9,c9,rfl⟩:=MS;push_cast -dsimp;have od:sV c (is.set k true) (r++[k+1]):=xV.step (by omega) hx hy;refine⟨⟨is.set k true,r++[k+1],_,rfl,yV,CJ,by rw[List.length_set];exact JB,?_,od,?_,WS,lS⟩,?_⟩
    ·intro j hj;rw[List.mem_append]at hj;rcases hj with hj|hj
     ·exact hwt j (List.mem_append.2 (.inl hj))
     simp at hj
     all_goals omega
    ·have:=fj is k kR;simp only[List.length_append,List.length_cons,List.length_nil]at hwl ⊢
     omega
    rw[gJ CJ,gJ oE,h4]
    have:=fj is k kR;simp only[JX,List.length_append,List.length_cons,List.length_nil];omega
   have hs0:ss=[]:=List.eq_nil_of_length_eq_zero (by omega);have hy:∀j,ti c x k j->j∈([]:List Nat):=λj hj=>by
    rcases hj with ⟨e',_⟩|⟨e',_⟩|⟨e',rfl⟩|⟨e',hh,rfl⟩<;>first|(exfalso;omega)|exact absurd (hsd.trans hs0) hh
   have yV:Vc.Own w2.heap.size 3 1 bH w6 (.slice (some ⟨g,0,none⟩) r.length wc) (r++[]):=by rw[List.append_nil];exact qD
   have CJ:=rO;have WS:=WR;have lS:=ob;have od:sV c (is.set k true) (r++[]):=xV.step (by omega) hx hy;refine⟨⟨is.set k true,r++[],_,rfl,yV,CJ,by rw[List.length_set];exact JB,?_,od,?_,WS,lS⟩,?_⟩
   ·intro j hj;rw[List.mem_append]at hj;rcases hj with hj|hj
    ·exact hwt j (List.mem_append.2 (.inl hj))
    simp at hj
    all_goals omega
   ·have:=fj is k kR;simp only[List.length_append,List.length_cons,List.length_nil]at hwl ⊢
    omega
   rw[gJ CJ,gJ oE,h4]
   have:=fj is k kR;simp only[JX,List.length_append,List.length_cons,List.length_nil];omega
  ·have GL:x.a=((x.a.toNat:Nat):Int):=by rw[Int.toNat_of_nonneg g1]
   have Qz:x.b=((x.b.toNat:Nat):Int):=by rw[Int.toNat_of_nonneg g3]
   refine⟨λh=>absurd h (by omega),λ_=>⟨λh=>absurd h (by omega),λ_=>⟨λh=>absurd h (by omega),λ_=>⟨λ_=>?_,λh=>absurd e h⟩⟩⟩⟩;have hy:∀j,ti c x k j->j∈[x.a.toNat,x.b.toNat]:=λj hj=>by
    rcases hj with ⟨e',rfl|rfl⟩|⟨e',_⟩|⟨e',rfl⟩|⟨e',hh,rfl⟩<;>first|(exfalso;omega)|simp
   rw[GL,Qz];refine cH bo rfl rfl (by omega) ?_;intro w7 fB;have K1:=fB.size;push_cast -dsimp;refine aW (base:=w2.heap.size) [x.a.toNat,x.b.toNat] (enc:=bH) bo (qD.new fB) (by rfl) (λj u hu=>by simpa[bH] using fB.cell hu) (by simp[bH,Value.oneCell']) (by simp only[List.length_cons,List.length_nil];omega) (by omega) ?_;intro v9 w9 yV Z3 hn9;have Wp:Kept (λj=>j=g) w7 w9:=Kept.grown Z3 (λj h=>by have:g=j:=(by simpa[Value.ownBlock] using h);omega);have k9:Kept (λj=>j=g) w6 w9:=(Kept.new fB).trans Wp (λ_ _ h=>h);have CJ:=rO.kept k9 (by omega);have WS:=WR.kept k9 (by omega);have lS:Below w.heap.size w w9:=ob.trans (k9.below (by omega) (λ_ h=>by omega));have MS:=yV.slice;obtain⟨a9,c9,rfl⟩:=MS;push_cast -dsimp;have od:sV c (is.set k true) (r++[x.a.toNat,x.b.toNat]):=xV.step (by omega) hx hy;refine⟨⟨is.set k true,r++[x.a.toNat,x.b.toNat],_,rfl,yV,CJ,by rw[List.length_set];exact JB,?_,od,?_,WS,lS⟩,?_⟩
   ·intro j hj;rw[List.mem_append]at hj;rcases hj with hj|hj
    ·exact hwt j (List.mem_append.2 (.inl hj))
    simp at hj
    all_goals omega
   ·have:=fj is k kR;simp only[List.length_append,List.length_cons,List.length_nil]at hwl ⊢
    omega
   rw[gJ CJ,gJ oE,h4]
   have:=fj is k kR;simp only[JX,List.length_append,List.length_cons,List.length_nil];omega
  ·have GL:x.a=((x.a.toNat:Nat):Int):=by rw[Int.toNat_of_nonneg g1]
   refine⟨λh=>absurd h (by omega),λ_=>⟨λh=>absurd h (by omega),λ_=>⟨λ_=>?_,λh=>absurd e h⟩⟩⟩;have hy:∀j,ti c x k j->j∈[x.a.toNat]:=λj hj=>by
    rcases hj with ⟨e',_⟩|⟨e',rfl⟩|⟨e',rfl⟩|⟨e',hh,rfl⟩<;>first|(exfalso;omega)|simp
   rw[GL];refine cH bo rfl rfl (by omega) ?_;intro w7 fB;have K1:=fB.size;push_cast -dsimp;refine aW (base:=w2.heap.size) [x.a.toNat] (enc:=bH) bo (qD.new fB) (by rfl) (λj u hu=>by simpa[bH] using fB.cell hu) (by simp[bH,Value.oneCell']) (by simp only[List.length_cons,List.length_nil];omega) (by omega) ?_;intro v9 w9 yV Z3 hn9;have Wp:Kept (λj=>j=g) w7 w9:=Kept.grown Z3 (λj h=>by have:g=j:=(by simpa[Value.ownBlock] using h);omega);have k9:Kept (λj=>j=g) w6 w9:=(Kept.new fB).trans Wp (λ_ _ h=>h);have CJ:=rO.kept k9 (by omega);have WS:=WR.kept k9 (by omega);have lS:Below w.heap.size w w9:=ob.trans (k9.below (by omega) (λ_ h=>by omega));have MS:=yV.slice;obtain⟨a9,c9,rfl⟩:=MS;push_cast -dsimp;have od:sV c (is.set k true) (r++[x.a.toNat]):=xV.step (by omega) hx hy;refine⟨⟨is.set k true,r++[x.a.toNat],_,rfl,yV,CJ,by rw[List.length_set];exact JB,?_,od,?_,WS,lS⟩,?_⟩
   ·intro j hj;rw[List.mem_append]at hj;rcases hj with hj|hj
    ·exact hwt j (List.mem_append.2 (.inl hj))
    simp at hj
    all_goals omega
   ·have:=fj is k kR;simp only[List.length_append,List.length_cons,List.length_nil]at hwl ⊢
    omega
   rw[gJ CJ,gJ oE,h4]
   have:=fj is k kR;simp only[JX,List.length_append,List.length_cons,List.length_nil];omega
  ·have jD:=hc.next k x hx (.inr e);refine⟨λh=>absurd h (by omega),λ_=>⟨λ_=>⟨⟨by omega,by omega⟩,?_⟩,λh=>absurd e h⟩⟩;have hy:∀j,ti c x k j->j∈[k+1]:=λj hj=>by
    rcases hj with ⟨e',_⟩|⟨e',_⟩|⟨e',rfl⟩|⟨e',_,rfl⟩<;>first|(exfalso;omega)|simp
   refine cH bo rfl rfl (by omega) ?_;intro w7 fB;have K1:=fB.size;push_cast -dsimp;refine aW (base:=w2.heap.size) [k+1] (enc:=bH) bo (qD.new fB) (by rfl) (λj u hu=>by simpa[bH] using fB.cell hu) (by simp[bH,Value.oneCell']) (by simp only[List.length_cons,List.length_nil];omega) (by omega) ?_;intro v9 w9 yV Z3 hn9;have Wp:Kept (λj=>j=g) w7 w9:=Kept.grown Z3 (λj h=>by have:g=j:=(by simpa[Value.ownBlock] using h);omega);have k9:Kept (λj=>j=g) w6 w9:=(Kept.new fB).trans Wp (λ_ _ h=>h);have CJ:=rO.kept k9 (by omega);have WS:=WR.kept k9 (by omega);have lS:Below w.heap.size w w9:=ob.trans (k9.below (by omega) (λ_ h=>by omega));have MS:=yV.slice;obtain⟨a9,c9,rfl⟩:=MS;push_cast -dsimp;have od:sV c (is.set k true) (r++[k+1]):=xV.step (by omega) hx hy;refine⟨⟨is.set k true,r++[k+1],_,rfl,yV,CJ,by rw[List.length_set];exact JB,?_,od,?_,WS,lS⟩,?_⟩
   ·intro j hj;rw[List.mem_append]at hj;rcases hj with hj|hj
    ·exact hwt j (List.mem_append.2 (.inl hj))
    simp at hj
    all_goals omega
   ·have:=fj is k kR;simp only[List.length_append,List.length_cons,List.length_nil]at hwl ⊢
    omega
   rw[gJ CJ,gJ oE,h4]
   have:=fj is k kR;simp only[JX,List.length_append,List.length_cons,List.length_nil];omega
  refine⟨λh=>absurd h (by omega),λ_=>⟨λh=>absurd h (by omega),λ_=>⟨λh=>absurd h (by omega),λ_=>⟨λh=>absurd h (by omega),λ_=>?_⟩⟩⟩⟩;have hy:∀j,ti c x k j->j∈([]:List Nat):=λj hj=>by
   rcases hj with ⟨e',_⟩|⟨e',_⟩|⟨e',rfl⟩|⟨e',hh,rfl⟩<;>(exfalso;omega)
  have yV:Vc.Own w2.heap.size 3 1 bH w6 (.slice (some ⟨g,0,none⟩) r.length wc) (r++[]):=by rw[List.append_nil];exact qD
  have CJ:=rO;have WS:=WR;have lS:=ob;have od:sV c (is.set k true) (r++[]):=xV.step (by omega) hx hy;refine⟨⟨is.set k true,r++[],_,rfl,yV,CJ,by rw[List.length_set];exact JB,?_,od,?_,WS,lS⟩,?_⟩
  ·intro j hj;rw[List.mem_append]at hj;rcases hj with hj|hj
   ·exact hwt j (List.mem_append.2 (.inl hj))
   simp at hj
   all_goals omega
  ·have:=fj is k kR;simp only[List.length_append,List.length_cons,List.length_nil]at hwl ⊢
   omega
  rw[gJ CJ,gJ oE,h4]
  have:=fj is k kR;simp only[JX,List.length_append,List.length_cons,List.length_nil];omega
end Go.Proofs.YtemjejfpadnljaaGreatDoor
