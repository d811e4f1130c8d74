/- Texts of this claim, merged: Open, Right, Rgt, OpenC, Svd, Op1, Op2, Thr, Two, Op3, Sv, Sw. -/
import Derived.ProofKit
import Derived.Handy
import Derived.OpenShut
import Derived.LaidMore
import Derived.Deep.Strs
import Derived.Test.YtemjejfpadnljaaGreatDoorM9
set_option maxRecDepth 100000
set_option linter.unusedSimpArgs false
set_option linter.unusedVariables false
set_option maxHeartbeats 8000000
section
namespace Go.Vc
open Go.RowKit
theorem wW {α:Type}(Pr:Nat->α->Prop):∀n,(∀i,i<n->∃x,Pr i x)->∃l:List α,l.length=n/\∀i x,l[i]?=some x->Pr i x
 | 0,_=>⟨[],rfl,λi x h=>by simp at h⟩
 | n+1,h=>by
  obtain⟨l,hl,hp⟩:=wW Pr n (λi hi=>h i (by omega));obtain⟨y,hy⟩:=h n (by omega);refine⟨l++[y],by simp[hl],λi x hx=>?_⟩;rcases Nat.lt_trichotomy i n with aj|heq|HJ
  ·rw[List.getElem?_append_left (by omega)]at hx;exact hp i x hx
  ·subst heq;rw[List.getElem?_append_right (by omega),hl,Nat.sub_self]at hx;simp at hx;subst hx;exact hy
  rw[List.getElem?_eq_none (by simp[hl];omega)]at hx;cases hx
theorem mapM_cells {w:World}{a:Addr}:∀(n s:Nat) (cs:List Value),((List.range' s n).mapM λi=>w.cell? (a.add i))=some cs->cs.length=n/\∀j u,cs[j]?=some u->w.cell? (a.add (s+j))=some u
 | 0,s,cs,h=>by
  simp at h;subst h;exact⟨rfl,λj u hu=>by simp at hu⟩
 | n+1,s,cs,h=>by
  rw[List.range'_succ,List.mapM_cons]at h;cases hc:w.cell? (a.add s) with
  | none=>simp[hc]at h
  | some c =>
   rw[hc]at h;simp only[Option.pure_def,Option.bind_eq_bind,Option.bind_some]at h;cases hr:(List.range' (s+1) n).mapM λi=>w.cell? (a.add i) with
   | none=>simp[hr]at h
   | some r =>
    rw[hr]at h;simp only[Option.bind_some,Option.some.injEq]at h;subst h;obtain⟨h1,h2⟩:=mapM_cells n (s+1) r hr;refine⟨by simp[h1],λj u hu=>?_⟩;cases j with
    | zero=>simp at hu;subst hu;exact hc
    | succ j =>
     have:=h2 j u (by simpa using hu);rwa [show s+1+j=s+(j+1) by omega]at this
theorem LG {w:World}{base:Nat}{a:Addr}{n:Nat}{cs:List Value}(h:w.cells? base a n=some cs):cs.length=n/\∀j u,cs[j]?=some u->w.cell? (a.add j)=some u:=by
 unfold World.cells? at h;split at h
 ·rw[List.range_eq_range']at h;obtain⟨h1,h2⟩:=mapM_cells n 0 cs h;exact⟨h1,λj u hu=>by simpa using h2 j u hu⟩
 cases h
end Go.Vc
end
section
namespace Go.Proofs.YtemjejfpadnljaaGreatDoor
open Go.Vc Go.Proofs Go.RowKit Cae
attribute [local irreducible] cg aa ag aX runK ar Sl Vc.Own vc aQ br a7
def bN (x:I3):List Value:=[.int .i64 x.op,.int .i64 x.a,.int .i64 x.b]
def elV:List Value->Value
 | [v]=>v
 | cs=>.agg cs.toArray
theorem Jm {α:Type}(R:List Value->α->Prop)(g:FuncId)(cap:List Value)(f:α->Bool)(l:List α)(hl:l.length<1000000000)(X:Nat->Prop)(v:Value)(w:World)(hv:Sl X 1 R w v l)
  (hf:∀x∈l,∀cs,R cs x->cs.length=1->∀w',Below w.heap.size w w'->ar Tryz.prog g (elV cs::cap) w' λr bE=>r=.bool (f x)/\Below w'.heap.size w' bE) :
  ar Tryz.prog 146 [v,.func (.func g) #[] cap.toArray] w λr w'=>(∃n:Int,r=.int .i64 n/\(0<=n↔l.any f=true))/\Below w.heap.size w w':=by
 obtain⟨a,c,rfl,hc⟩:=hv.shape;refine aE Tryz.func146 rfl (by kernel_rfl) [4] rfl ?_;push_cast -dsimp(maxSteps:=4000000) [Tryz.ntmps146];refine aK [4,5,8,9,10,11,12,13,14,15,16,17,18] (λz wx=>∃(i:Nat),z 8=.int .i64 i/\i<=l.length/\(∀x∈l.take i,f x=false)/\Below w.heap.size w wx) (λz _=>l.length-(intOf (z 8)).toNat) ?_ ?_
 ·exact⟨0,rfl,Nat.zero_le _,by simp,Below.refl _ _⟩
 intro z wx hI;obtain⟨i,h8,hi,bU,hb⟩:=hI;push_cast -dsimp[h8];refine⟨λaj=>?_,λeo=>?_⟩
 ·obtain⟨x,hx,mm,hd,ht⟩:=ah (l:=l) (i:=i) (by omega);obtain⟨b,o,cs,ha,hX,hk,aU,hR⟩:=(hv.below hb).xw hx;subst ha;obtain⟨u,rfl⟩:∃u,cs=[u]:=(match cs,hk with|[u],_=>⟨u,rfl⟩);have c0:wx.cell? ⟨b,o+i,none⟩=some u:=(by simpa using aU 0 u rfl);push_cast -dsimp[c0]
  refine⟨⟨by omega,by omega⟩,?_⟩;refine aA (hf x mm _ hR rfl wx hb) ?_;rintro _ w1 ⟨rfl,gU⟩;have oT:=hb.trans (gU.mono hb.size);push_cast -dsimp[Eo];refine⟨λyM=>?_,λgG=>?_⟩
  ·exact⟨⟨i,rfl,⟨λ_=>List.any_eq_true.2 ⟨x,mm,yM⟩,λ_=>by omega⟩⟩,oT⟩
  refine⟨⟨by omega,by omega⟩,⟨i+1,rfl,by omega,?_,oT⟩,by rw[h8];simp only[intOf];omega⟩;intro y hy;rw[ht,List.mem_append,List.mem_singleton]at hy;rcases hy with hy|rfl
  ·exact bU y hy
  exact gG
 refine⟨⟨-1,rfl,?_⟩,hb⟩;rw[List.take_of_length_le (by omega)]at bU;constructor
 ·intro h;omega
 intro h;obtain⟨x,hx,hn⟩:=List.any_eq_true.1 h;rw[bU x hx]at hn;cases hn
theorem BP {α:Type}(R:List Value->α->Prop)(g:FuncId)(cap:List Value)(f:α->Bool)(l:List α)(hl:l.length<1000000000)(X:Nat->Prop)(v:Value)(w:World)(hv:Sl X 1 R w v l)
  (hf:∀x∈l,∀cs,R cs x->cs.length=1->∀w',Below w.heap.size w w'->ar Tryz.prog g (elV cs::cap) w' λr bE=>r=.bool (f x)/\Below w'.heap.size w' bE) :
  ar Tryz.prog 123 [v,.func (.func g) #[] cap.toArray] w λr w'=>r=.bool (l.any f)/\Below w.heap.size w w':=by
 refine aE Tryz.func123 rfl (by kernel_rfl) [4] rfl ?_;push_cast -dsimp(maxSteps:=4000000) [Tryz.ntmps123];refine aA (Jm R g cap f l hl X v w hv hf) ?_;rintro r w1 ⟨⟨n,rfl,hn⟩,hb⟩;push_cast -dsimp;refine⟨?_,hb⟩;congr 1;cases h:l.any f with
 | true=>rw[h]at hn;exact decide_eq_true (hn.2 rfl)
 | false=>rw[h]at hn;exact decide_eq_false (λh0=>by have:=hn.1 h0;cases this)
theorem MC {α:Type}(R:List Value->α->Prop)(g:FuncId)(cap:List Value)(f:α->Bool)(l:List α)(hl:l.length<1000000000)(X:Nat->Prop)(v:Value)(w:World)(hv:Sl X 3 R w v l)
  (hf:∀x∈l,∀cs,R cs x->cs.length=3->∀w',Below w.heap.size w w'->ar Tryz.prog g (elV cs::cap) w' λr bE=>r=.bool (f x)/\Below w'.heap.size w' bE) :
  ar Tryz.prog 143 [v,.func (.func g) #[] cap.toArray] w λr w'=>(∃n:Int,r=.int .i64 n/\(0<=n↔l.any f=true))/\Below w.heap.size w w':=by
 obtain⟨a,c,rfl,hc⟩:=hv.shape;refine aE Tryz.func143 rfl (by kernel_rfl) [4] rfl ?_;push_cast -dsimp(maxSteps:=4000000) [Tryz.ntmps143];refine aK [4,5,8,9,10,11,12,13,14,15,16,17,18] (λz wx=>∃(i:Nat),z 8=.int .i64 i/\i<=l.length/\(∀x∈l.take i,f x=false)/\Below w.heap.size w wx) (λz _=>l.length-(intOf (z 8)).toNat) ?_ ?_
 ·exact⟨0,rfl,Nat.zero_le _,by simp,Below.refl _ _⟩
 intro z wx hI;obtain⟨i,h8,hi,bU,hb⟩:=hI;push_cast -dsimp[h8];refine⟨λaj=>?_,λeo=>?_⟩
 ·obtain⟨x,hx,mm,hd,ht⟩:=ah (l:=l) (i:=i) (by omega);obtain⟨b,o,cs,ha,hX,hk,aU,hR⟩:=(hv.below hb).xw hx;subst ha;obtain⟨u0,u1,u2,rfl⟩:∃u0 u1 u2,cs=[u0,u1,u2]:=(match cs,hk with|[u0,u1,u2],_=>⟨u0,u1,u2,rfl⟩);have c0:aB wx ⟨b,o+i*3,none⟩ 0 3=some [u0,u1,u2]:=(ak [u0,u1,u2] 0 (λj u hu=>by simpa using aU j u hu));push_cast -dsimp[c0]
  refine⟨⟨by omega,by omega⟩,?_⟩;refine aA (hf x mm _ hR rfl wx hb) ?_;rintro _ w1 ⟨rfl,gU⟩;have oT:=hb.trans (gU.mono hb.size);push_cast -dsimp[Eo];refine⟨λyM=>?_,λgG=>?_⟩
  ·exact⟨⟨i,rfl,⟨λ_=>List.any_eq_true.2 ⟨x,mm,yM⟩,λ_=>by omega⟩⟩,oT⟩
  refine⟨⟨by omega,by omega⟩,⟨i+1,rfl,by omega,?_,oT⟩,by rw[h8];simp only[intOf];omega⟩;intro y hy;rw[ht,List.mem_append,List.mem_singleton]at hy;rcases hy with hy|rfl
  ·exact bU y hy
  exact gG
 refine⟨⟨-1,rfl,?_⟩,hb⟩;rw[List.take_of_length_le (by omega)]at bU;constructor
 ·intro h;omega
 intro h;obtain⟨x,hx,hn⟩:=List.any_eq_true.1 h;rw[bU x hx]at hn;cases hn
theorem sF {α:Type}(R:List Value->α->Prop)(g:FuncId)(cap:List Value)(f:α->Bool)(l:List α)(hl:l.length<1000000000)(X:Nat->Prop)(v:Value)(w:World)(hv:Sl X 3 R w v l)
  (hf:∀x∈l,∀cs,R cs x->cs.length=3->∀w',Below w.heap.size w w'->ar Tryz.prog g (elV cs::cap) w' λr bE=>r=.bool (f x)/\Below w'.heap.size w' bE) :
  ar Tryz.prog 115 [v,.func (.func g) #[] cap.toArray] w λr w'=>r=.bool (l.any f)/\Below w.heap.size w w':=by
 refine aE Tryz.func115 rfl (by kernel_rfl) [4] rfl ?_;push_cast -dsimp(maxSteps:=4000000) [Tryz.ntmps115];refine aA (MC R g cap f l hl X v w hv hf) ?_;rintro r w1 ⟨⟨n,rfl,hn⟩,hb⟩;push_cast -dsimp;refine⟨?_,hb⟩;congr 1;cases h:l.any f with
 | true=>rw[h]at hn;exact decide_eq_true (hn.2 rfl)
 | false=>rw[h]at hn;exact decide_eq_false (λh0=>by have:=hn.1 h0;cases this)
def Ko (X:Nat->Prop)(w:World):List Value->List Rg->Prop:=λcs s=>∃u,cs=[u]/\Sl X 2 (En ay) w u s
def dp (X:Nat->Prop)(w:World)(v:Value)(l:List (List Rg)):Prop:=Sl X 1 (Ko X w) w v l
def cL (X:Nat->Prop)(w:World)(v:Value)(c:aD):Prop:=∃sv iv,v=.agg #[sv,iv]/\dp X w sv c.sets/\Sl X 3 (En bN) w iv c.ins
theorem Ko.mono {X X':Nat->Prop}{w w':World}{cs:List Value}{s:List Rg}(h:Ko X w cs s)(hs:∀b,¬X b->b<w.heap.size->w'.heap[b]?=w.heap[b]?)(hX:∀b,X' b->X b):Ko X' w' cs s:=by
 obtain⟨u,rfl,h⟩:=h;exact⟨u,rfl,h.mono hs (λ_ _ _ h=>h) hX⟩
theorem dp.mono {X X':Nat->Prop}{w w':World}{v:Value}{l:List (List Rg)}(h:dp X w v l)(hs:∀b,¬X b->b<w.heap.size->w'.heap[b]?=w.heap[b]?)(hX:∀b,X' b->X b):dp X' w' v l :=
 Sl.mono h hs (λ_ _ _ h=>h.mono hs hX) hX
theorem cL.mono {X X':Nat->Prop}{w w':World}{v:Value}{c:aD}(h:cL X w v c)(hs:∀b,¬X b->b<w.heap.size->w'.heap[b]?=w.heap[b]?)(hX:∀b,X' b->X b):cL X' w' v c:=by
 obtain⟨sv,iv,rfl,h1,h2⟩:=h;exact⟨sv,iv,rfl,h1.mono hs hX,h2.mono hs (λ_ _ _ h=>h) hX⟩
theorem dp.below {X:Nat->Prop}{w w':World}{v:Value}{l:List (List Rg)}(h:dp X w v l)(hb:Below w.heap.size w w'):dp X w' v l:=h.mono (λb _ aj=>hb.block b aj) (λ_ h=>h)
theorem cL.below {X:Nat->Prop}{w w':World}{v:Value}{c:aD}(h:cL X w v c)(hb:Below w.heap.size w w'):cL X w' v c:=h.mono (λb _ aj=>hb.block b aj) (λ_ h=>h)
theorem dp.kept {X Y:Nat->Prop}{w w':World}{v:Value}{l:List (List Rg)}(h:dp X w v l)(hb:Kept Y w w')(hY:∀i,Y i->X i):dp X w' v l:=h.mono (λb hx aj=>hb.block b aj λhh=>hx (hY b hh)) (λ_ h=>h)
theorem cL.kept {X Y:Nat->Prop}{w w':World}{v:Value}{c:aD}(h:cL X w v c)(hb:Kept Y w w')(hY:∀i,Y i->X i):cL X w' v c:=h.mono (λb hx aj=>hb.block b aj λhh=>hx (hY b hh)) (λ_ h=>h)
theorem wC (k n:Int)(b:Nat)(w:World)(hn:w.cell? ⟨b,0,none⟩=some (.int .i64 n)) :
  ar Tryz.prog 145 [.int .i64 k,.pointer (some ⟨b,0,none⟩)] w λr w'=>r=.bool (decide (0<=k/\k<n))/\w'=w:=by
 refine aE Tryz.func145 rfl (by kernel_rfl) [3] rfl ?_;push_cast -dsimp(maxSteps:=4000000) [Tryz.ntmps145];push_cast -dsimp[hn];constructor
 ·intro h;simp[h]
 intro h;simp[h]
theorem aBP (x:I3)(sets n:Int)(w:World) :
  ar Tryz.prog 122 [.agg #[.int .i64 x.op,.int .i64 x.a,.int .i64 x.b],.int .i64 sets,.int .i64 n] w λr w'=>r=.bool (bJ x sets n)/\Below w.heap.size w w':=by
 refine aE Tryz.func122 rfl (by kernel_rfl) [6] rfl ?_;push_cast -dsimp(maxSteps:=4000000) [Tryz.ntmps122];refine aR ?_;intro w1 aV;push_cast -dsimp;refine aR ?_;intro w2 bH;have hb:Below w.heap.size w w2:=aV.below.trans (bH.below.mono (by have:=aV.size;omega));have g:∀{j u},[Value.int .i64 x.op,.int .i64 x.a,.int .i64 x.b][j]?=some u->w2.cell? ⟨w.heap.size,j,none⟩=some u:=λ{j u} h=>(bH.below.cell (by have:=aV.size;show w.heap.size<_;omega)).trans (aV.cell h)
 have c0:w2.cell? ⟨w.heap.size,0,none⟩=some (.int .i64 x.op):=g rfl;have c1:w2.cell? ⟨w.heap.size,1,none⟩=some (.int .i64 x.a):=g rfl;have c2:w2.cell? ⟨w.heap.size,2,none⟩=some (.int .i64 x.b):=g rfl;have cn:w2.cell? ⟨w1.heap.size,0,none⟩=some (.int .i64 n):=bH.cell0;push_cast -dsimp[c0,c1,c2];unfold bJ;refine⟨λh1=>?_,λh1=>⟨λh2=>?_,λh2=>⟨λh3=>?_,λh3=>?_⟩⟩⟩
 ·rw[if_pos h1]
  repeat' first|apply And.intro|intro _
  all_goals first|exact hb|(congr 1;rw[decide_eq_decide];omega)|(congr 1;exact(decide_eq_false (by omega)).symm)|(congr 1;exact(decide_eq_true (by omega)).symm)|omega
 ·rw[if_neg h1,if_pos h2];refine aA (wC _ n _ w2 cn) ?_;rintro _ w3 ⟨rfl,hw⟩;subst hw;push_cast -dsimp[c1,c2];refine⟨λha=>?_,λha=>⟨by congr 1;exact(decide_eq_false (by omega)).symm,hb⟩⟩;refine aA (wC _ n _ w3 cn) ?_;rintro _ w4 ⟨rfl,hw⟩;subst hw;push_cast -dsimp;exact⟨by congr 1;rw[decide_eq_decide];omega,hb⟩
 ·rw[if_neg h1,if_neg h2,if_pos h3];refine aA (wC _ n _ w2 cn) ?_;rintro _ w3 ⟨rfl,hw⟩;subst hw;push_cast -dsimp[c1,c2]
  repeat' first|apply And.intro|intro _
  all_goals first|exact hb|(congr 1;rw[decide_eq_decide];omega)|(congr 1;exact(decide_eq_false (by omega)).symm)|(congr 1;exact(decide_eq_true (by omega)).symm)|omega
 rw[if_neg h1,if_neg h2,if_neg h3];refine⟨λh4=>?_,λh4=>⟨λh5=>?_,λh5=>?_⟩⟩
 ·rw[if_pos (.inl h4)]
  repeat' first|apply And.intro|intro _
  all_goals first|exact hb|(congr 1;rw[decide_eq_decide];omega)|(congr 1;exact(decide_eq_false (by omega)).symm)|(congr 1;exact(decide_eq_true (by omega)).symm)|omega
 ·rw[if_pos (.inr h5)]
  repeat' first|apply And.intro|intro _
  all_goals first|exact hb|(congr 1;rw[decide_eq_decide];omega)|(congr 1;exact(decide_eq_false (by omega)).symm)|(congr 1;exact(decide_eq_true (by omega)).symm)|omega
 rw[if_neg (by omega)];exact⟨rfl,hb⟩
theorem M8 (x:I3)(bc bn:Nat)(a:Option Addr)(m cp:Nat)(n:Int)(w:World)(hc:w.cell? ⟨bc,0,none⟩=some (.slice a m cp))(hn:w.cell? ⟨bn,0,none⟩=some (.int .i64 n)) :
  ar Tryz.prog 121 [.agg #[.int .i64 x.op,.int .i64 x.a,.int .i64 x.b],.pointer (some ⟨bc,0,none⟩),.pointer (some ⟨bn,0,none⟩)] w λr w'=>r=.bool (!bJ x m n)/\Below w.heap.size w w':=by
 refine aE Tryz.func121 rfl (by kernel_rfl) [4] rfl ?_;push_cast -dsimp(maxSteps:=4000000) [Tryz.ntmps121];refine aR ?_;intro w1 aV;have d0:aB w1 ⟨w.heap.size,0,none⟩ 0 3=some [.int .i64 x.op,.int .i64 x.a,.int .i64 x.b]:=aV.aM.aB;have dc:w1.cell? ⟨bc,0,none⟩=some (.slice a m cp):=(Kept.new aV (X:=λ_=>False)).cell hc id;have dn:w1.cell? ⟨bn,0,none⟩=some (.int .i64 n):=(Kept.new aV (X:=λ_=>False)).cell hn id;push_cast -dsimp[d0,dc,dn];refine aA (aBP x m n w1) ?_;rintro _ w2 ⟨rfl,dt⟩;push_cast -dsimp;exact aV.below.trans (dt.mono (by have:=aV.size;omega))
theorem M9 (s:List Rg)(hs:s.length<1000000000)(X:Nat->Prop)(v:Value)(w:World)(hv:Sl X 2 (En ay) w v s) :
  ar Tryz.prog 124 [v] w λr w'=>r=.bool (!aO (-2) s)/\Below w.heap.size w w':=by
 refine aE Tryz.func124 rfl (by kernel_rfl) [2] rfl ?_;push_cast -dsimp(maxSteps:=4000000) [Tryz.ntmps124];refine aA (tK s hs X v w hv) ?_;rintro _ w1 ⟨rfl,hb⟩;push_cast -dsimp;exact hb
def jq (c:aD):Prop:=∀s∈c.sets,s.length<1000000000
theorem EV {α:Type}(l:List α)(f:α->Bool):(!(l.any λx=>!f x))=l.all f:=by
 induction l with
 | nil=>rfl
 | cons x l ih=>simp only[List.any_cons,List.all_cons,Bool.not_or,Bool.not_not,ih]
theorem oX (c:aD)(hl:jq c)(hi:c.ins.length<1000000000)(hs:c.sets.length<1000000000)(X:Nat->Prop)(v:Value)(w:World)(hv:cL X w v c) :
  ar Tryz.prog 88 [v] w λr w'=>r=.bool (aS c)/\Below w.heap.size w w':=by
 obtain⟨sv,iv,rfl,so,tS⟩:=hv;obtain⟨a1,c1,rfl,Fz⟩:=so.shape;obtain⟨a2,c2,rfl,uI⟩:=tS.shape;refine aE Tryz.func88 rfl (by kernel_rfl) [2] rfl ?_;push_cast -dsimp(maxSteps:=4000000) [Tryz.ntmps88];refine aR ?_;intro w1 aV;have d0:w1.cell? ⟨w.heap.size,0,none⟩=some (.slice a1 c.sets.length c1):=aV.cell rfl;have d1:w1.cell? ⟨w.heap.size,1,none⟩=some (.slice a2 c.ins.length c2):=aV.cell rfl;push_cast -dsimp[d0,d1];refine ao (z:=[.int .i64 0]) (by kernel_rfl) ?_;intro w2 bH;push_cast -dsimp;refine aC bH.aM (by simp) rfl ?_;intro w3 cM;have gV:Below w.heap.size w w3:=aV.below.trans ((bH.below.mono (by have:=aV.size;omega)).trans (cM.kept.below (by have:=aV.size;have:=bH.size;omega) (λ_ h=>by have:=aV.size;omega)));have e0:w3.cell? ⟨w.heap.size,0,none⟩=some (.slice a1 c.sets.length c1):=cM.kept.cell ((Kept.new bH (X:=λ_=>False)).cell d0 id) (by have:=aV.size;show ¬w.heap.size=w1.heap.size;omega)
 have e1:w3.cell? ⟨w.heap.size,1,none⟩=some (.slice a2 c.ins.length c2):=cM.kept.cell ((Kept.new bH (X:=λ_=>False)).cell d1 id) (by have:=aV.size;show ¬w.heap.size=w1.heap.size;omega)
 have en:w3.cell? ⟨w1.heap.size,0,none⟩=some (.int .i64 c.ins.length):=cM.aM.cell rfl;push_cast -dsimp[en,e0,e1];have gG:¬(1<=c.ins.length/\c.ins.length<=2000/\c.sets.length<=2000)->Value.bool false=Value.bool (aS c):=λh=>by
  congr 1;unfold aS;rw[decide_eq_false h];rfl
 refine⟨λh1=>⟨λh2=>⟨λh3=>⟨⟨by omega,by omega⟩,?_⟩,λh3=>⟨gG (by omega),gV⟩⟩,λh2=>⟨gG (by omega),gV⟩⟩,λh1=>⟨gG (by omega),gV⟩⟩;obtain⟨x,hx,mm,_,_⟩:=ah (l:=c.ins) (i:=c.ins.length-1) (by omega);obtain⟨b,o,rfl,hX,aU⟩:=(tS.below gV).get hx;have c0:w3.cell? ⟨b,o+(c.ins.length-1)*3,none⟩=some (.int .i64 x.op):=aU 0 _ rfl;have aHv:((c.ins.length:Int)-1).toNat=c.ins.length-1:=by omega
 push_cast -dsimp[aHv,c0];have AE:(x.op=1\/x.op=4)->Value.bool false=Value.bool (aS c):=λh=>by
  congr 1;unfold aS;rw[hx];dsimp only;rw[decide_eq_false (p:=x.op≠1/\x.op≠4) (by omega)];simp
 refine⟨⟨by omega,by omega⟩,λuN=>?_,λuN=>⟨AE (.inl uN),gV⟩⟩;push_cast -dsimp[aHv,en,e1,c0];refine⟨⟨by omega,by omega⟩,⟨by omega,by omega⟩,λkQ=>⟨AE (.inr kQ),gV⟩,λkQ=>?_⟩;have dA:aS c=(c.ins.all (λx=>bJ x c.sets.length c.ins.length) && c.sets.all (aO (-2))):=by
  unfold aS;rw[hx];dsimp only;rw[decide_eq_true (by omega),decide_eq_true ⟨uN,kQ⟩,Bool.true_and,Bool.true_and]
 refine aA (sF (En bN) 121 [.pointer (some ⟨w.heap.size,0,none⟩),.pointer (some ⟨w1.heap.size,0,none⟩)] (λx=>!bJ x c.sets.length c.ins.length) c.ins (by omega) X _ w3 (tS.below gV) ?_) ?_
 ·rintro y hy cs rfl _ w' Bx;exact M8 y w.heap.size w1.heap.size a1 c.sets.length c1 c.ins.length w' ((Bx.cell (World.block_lt_of_cell? w3 _ e0)).trans e0) ((Bx.cell (World.block_lt_of_cell? w3 _ en)).trans en)
 rintro _ w4 ⟨rfl,nd⟩;have f0:=(nd.cell (World.block_lt_of_cell? w3 _ e0)).trans e0;have CV:=gV.trans (nd.mono gV.size);push_cast -dsimp[f0];rw[EV];cases hA:c.ins.all (λx=>bJ x c.sets.length c.ins.length) with
 | false =>
  push_cast -dsimp;exact⟨by rw[dA,hA,Bool.false_and],CV⟩
 | true =>
  push_cast -dsimp[f0];refine aA (BP (Ko X w4) 124 [] (λx=>!aO (-2) x) c.sets (by omega) X _ w4 (so.below CV) ?_) ?_
  ·rintro s Qq cs ⟨u,rfl,hu⟩ _ w' Bx;exact M9 s (hl s Qq) X u w' (hu.below Bx)
  rintro _ w5 ⟨rfl,mj⟩;push_cast -dsimp;exact⟨by rw[EV,dA,hA,Bool.true_and],CV.trans (mj.mono CV.size)⟩
end Go.Proofs.YtemjejfpadnljaaGreatDoor
end
section
namespace Go.Proofs.YtemjejfpadnljaaGreatDoor
open Go.Vc Go.Proofs Go.RowKit Cae
attribute [local irreducible] cg aa ag aX runK ar Sl Vc.Own vc aQ br a7
open Go.Deep Go.ChangeShapes Go.WideShapes Go.ChangeAt
section
variable {H:Type} {enc:TypeId×Value->H} {W:World} {base:Nat} {sp:Nat->Bool} {held:Bool}
theorem aHl:Tryz.prog.cellsOf 3=1:=by kernel_rfl
end
end Go.Proofs.YtemjejfpadnljaaGreatDoor
end
section
namespace Go.Proofs.YtemjejfpadnljaaGreatDoor
open Go.Vc Go.Proofs Go.RowKit Cae
structure SV where
 a:Option Addr
 n:Nat
 c:Nat
def SV.v (s:SV):Value:=.slice s.a s.n s.c
def j9 (s:SV):List Value:=[s.v]
theorem vX:∀x,∀u∈j9 x,u.oneCell'=true:=by simp[j9,SV.v,Value.oneCell']
theorem jA:∀x,∀u∈bN x,u.oneCell'=true:=by simp[bN,Value.oneCell']
structure PV where
 b:Bool
 s1:SV
 i1:SV
 s2:SV
 i2:SV
def gJ (u:PV):List Value:=[.bool u.b,u.s1.v,u.i1.v,u.s2.v,u.i2.v]
theorem vW:∀x,∀u∈gJ x,u.oneCell'=true:=by simp[gJ,SV.v,Value.oneCell']
theorem um {α β:Type}{base k:Nat}{e:TypeId}{enc:α->List Value}{R:List Value->β->Prop}{w:World}{v:Value}{us:List α}{l:List β}(h:Vc.Own base e k enc w v us)(hl:us.length=l.length)
  (hR:∀(i:Nat) (x:β),l[i]?=some x->∃u,us[i]?=some u/\R (enc u) x):Sl (·<base) k R w v l:=by
 have hs:=h.sl;unfold Sl at hs ⊢
 obtain⟨a,c,he,hc,hh⟩:=hs;refine⟨a,c,by rw[he,hl],by omega,λi x hx=>?_⟩;obtain⟨u,hu,hr⟩:=hR i x hx;obtain⟨b,o,cs,ha,hb,il,aU,rfl⟩:=hh i u hu;exact⟨b,o,_,ha,hb,il,aU,hr⟩
theorem sR {α β:Type}{Pr:Nat->α->β->Prop}{us:List α}{l:List β}{u:α}{x:β}(hl:us.length=l.length)(h:∀(i:Nat) (y:β),l[i]?=some y->∃v,us[i]?=some v/\Pr i v y)(hx:Pr l.length u x) :
  ∀(i:Nat) (y:β),(l++[x])[i]?=some y->∃v,(us++[u])[i]?=some v/\Pr i v y:=by
 intro i y hy;rcases Nat.lt_trichotomy i l.length with aj|heq|HJ
 ·rw[List.getElem?_append_left aj]at hy;obtain⟨v,h1,h2⟩:=h i y hy;exact⟨v,by rw[List.getElem?_append_left (by omega)];exact h1,h2⟩
 ·subst heq;rw[List.getElem?_append_right (Nat.le_refl _),Nat.sub_self]at hy;simp at hy;subst hy;exact⟨u,by rw[List.getElem?_append_right (by omega),hl,Nat.sub_self];rfl,hx⟩
 rw[List.getElem?_eq_none (by simp;omega)]at hy;cases hy
theorem dp.values {X:Nat->Prop}{w:World}{v:Value}{l:List (List Rg)}(h:dp X w v l):∃us:List SV,us.length=l.length/\Sl X 1 (En j9) w v us/\∀(i:Nat) (u:SV) (s:List Rg),us[i]?=some u->l[i]?=some s->Sl X 2 (En ay) w u.v s:=by
 have h0:=h.shape;obtain⟨a,c,rfl,hc⟩:=h0;have dA:∀(i:Nat) (s:List Rg),l[i]?=some s->∃u:SV,Sl X 2 (En ay) w u.v s/\∃b o,a=some ⟨b,o,none⟩/\¬X b/\w.cell? ⟨b,o+i,none⟩=some u.v:=λi s hs=>by
  obtain⟨b,o,cs,e,hX,il,aU,u,rfl,hu⟩:=h.xw hs;obtain⟨a',c',rfl,_⟩:=hu.shape;refine⟨⟨a',s.length,c'⟩,hu,b,o,e,hX,?_⟩
  have:=aU 0 _ rfl;rw[Nat.mul_one,Nat.add_zero]at this;rw[this];rfl
 have hex:∃us:List SV,us.length=l.length/\∀(i:Nat) (s:List Rg),l[i]?=some s->∃u,us[i]?=some u/\Sl X 2 (En ay) w u.v s/\∃b o,a=some ⟨b,o,none⟩/\¬X b/\w.cell? ⟨b,o+i,none⟩=some u.v:=by
  have key:∀n,n<=l.length->∃us:List SV,us.length=n/\∀(i:Nat) (s:List Rg),i<n->l[i]?=some s->∃u,us[i]?=some u/\Sl X 2 (En ay) w u.v s/\∃b o,a=some ⟨b,o,none⟩/\¬X b/\w.cell? ⟨b,o+i,none⟩=some u.v:=λn hn=>by
   induction n with
   | zero=>exact⟨[],rfl,λi s hi=>absurd hi (by omega)⟩
   | succ n ih =>
    obtain⟨us,hl,pq⟩:=ih (by omega);obtain⟨u,hu⟩:=dA n _ (List.getElem?_eq_getElem (by omega));refine⟨us++[u],by simp[hl],λi s hi hs=>?_⟩;by_cases e:i=n
    ·subst e;rw[List.getElem?_eq_getElem (by omega)]at hs;cases hs;exact⟨u,by rw[List.getElem?_append_right (by omega),hl,Nat.sub_self];rfl,hu⟩
    obtain⟨u',h1,h2⟩:=pq i s (by omega) hs;exact⟨u',by rw[List.getElem?_append_left (by omega)];exact h1,h2⟩
  obtain⟨us,h1,h2⟩:=key l.length (Nat.le_refl _);exact⟨us,h1,λi s hs=>h2 i s (List.getElem?_eq_some_iff.1 hs).1 hs⟩
 obtain⟨us,hl,pq⟩:=hex;refine⟨us,hl,⟨a,c,by rw[hl],by omega,λi u hu=>?_⟩,λi u s hu hs=>?_⟩
 ·have aj:=(List.getElem?_eq_some_iff.1 hu).1;obtain⟨u',h1,h2,b,o,e,hX,aU⟩:=pq i _ (List.getElem?_eq_getElem (by omega));rw[hu]at h1;cases h1;refine⟨b,o,[u.v],e,hX,rfl,λj x hx=>?_,rfl⟩;cases j with
  | zero=>simp at hx;subst hx;rw[Nat.mul_one,Nat.add_zero];exact aU
  | succ j=>simp at hx
 obtain⟨u',h1,h2,_⟩:=pq i s hs;rw[hu]at h1;cases h1;exact h2
theorem dp.rO {X:Nat->Prop}{w:World}{v:Value}{l:List (List Rg)}{us:List SV}(hl:us.length=l.length)(h:Sl X 1 (En j9) w v us)(hu:∀(i:Nat) (u:SV) (s:List Rg),us[i]?=some u->l[i]?=some s->Sl X 2 (En ay) w u.v s):dp X w v l:=by
 obtain⟨a,c,rfl,hc⟩:=h.shape;refine⟨a,c,by rw[hl],by omega,λi s hs=>?_⟩;have aj:=(List.getElem?_eq_some_iff.1 hs).1;have hx:=List.getElem?_eq_getElem (l:=us) (i:=i) (by omega);obtain⟨b,o,cs,e,hX,il,aU,rfl⟩:=h.xw hx;exact⟨b,o,_,e,hX,il,aU,_,rfl,hu i _ s hx hs⟩
end Go.Proofs.YtemjejfpadnljaaGreatDoor
namespace Go.Vc
open Go.RowKit
theorem Sl.fresh {α:Type}{X X':Nat->Prop}{k:Nat}{enc:α->List Value}{w:World}{v:Value}{l:List α}(hk:∀x,0<(enc x).length)(h:Sl X k (En enc) w v l)(hX:∀b,X' b->X b\/w.heap.size<=b):Sl X' k (En enc) w v l:=by
 obtain⟨a,c,rfl,hc,h⟩:=h;refine⟨a,c,rfl,hc,λi x hx=>?_⟩;obtain⟨b,o,cs,e,mJ,hl,aU,rfl⟩:=h i x hx;refine⟨b,o,_,e,λhb=>?_,hl,aU,rfl⟩;have:b<w.heap.size:=World.block_lt_of_cell? w _ (aU 0 _ (List.getElem?_eq_getElem (hk x)));rcases hX b hb with h|h
 ·exact mJ h
 omega
theorem Own.aKf {α:Type}{base:Nat}{e:TypeId}{k:Nat}{enc:α->List Value}{w:World}{v:Value}{l:List α}(h:Vc.Own base e k enc w v l):Sl (λb=>v.ownBlock≠some b) k (En enc) w v l:=by
 have hs:=h.sl;obtain⟨a,c,rfl,hc,hs⟩:=hs;refine⟨a,c,rfl,hc,λi x hx=>?_⟩;obtain⟨b,o,cs,e,mJ,hl,aU,il⟩:=hs i x hx;refine⟨b,o,cs,e,?_,hl,aU,il⟩;subst e;simp[Value.ownBlock]
end Go.Vc
namespace Go.Vc
theorem Sl.OM {α:Type}{X Y Z:Nat->Prop}{k:Nat}{enc:α->List Value}{w w':World}{v:Value}{l:List α}(h:Sl X k (En enc) w v l)(hk:∀x,0<(enc x).length)(kc:Kept Y w w')(hY:∀i,Y i->X i)(hZ:∀b,Z b->X b\/w.heap.size<=b):Sl Z k (En enc) w' v l :=
 (((h.fresh hk (X':=λb=>X b\/Z b) (λb hb=>by
  rcases hb with hb|hb
  ·exact .inl hb
  exact hZ b hb)).kept kc (λi hi=>.inl (hY i hi))).weaken (λb hb=>.inr hb))
end Go.Vc
end
section
namespace Go.Proofs.YtemjejfpadnljaaGreatDoor
open Go.Vc Go.Proofs Go.RowKit Cae
attribute [local irreducible] cg aa ag aX runK ar Sl Vc.Own vc aQ br a7
def aHz (b:Bool):List Value:=[.bool b]
theorem sI {is:List Bool}:∀(f f' k:Nat),is.length<=f+k->is.length<=f'+k->bO is f k=bO is f' k
 | 0,f',k,h,h'=>by rw[bO,pE f' (by omega)]
 | f+1,0,k,h,h'=>by rw[pE _ (by omega),bO]
 | f+1,f'+1,k,h,h'=>by
  rw[bO,bO];split
  ·rfl
  split
  ·exact sI f f' (k+1) (by omega) (by omega)
  rfl
theorem Ah (is:List Bool)(k:Nat)(h:k<is.length):q9 is k=bO is (is.length-(k+1)) (k+1):=sI _ _ _ (by omega) (by omega)
theorem VR (c:aD)(hc:CR c)(k:Nat)(hk:k<c.ins.length)(X:Nat->Prop)(v:Value)(w:World)(hv:cL X w v c) :
  ar Tryz.prog 142 [v,.int .i64 k] w λr w'=>r=.int .i64 (gR c k)/\Below w.heap.size w w':=by
 have hm:=hc.many;obtain⟨sv,iv,rfl,so,tS⟩:=hv;obtain⟨a,cp,rfl,Qc⟩:=tS.shape;refine aE Tryz.func142 rfl (by kernel_rfl) [4] rfl ?_;push_cast -dsimp(maxSteps:=4000000) [Tryz.ntmps142];refine aR ?_;intro w1 aV;have aV:mg w w1 127 [sv,.slice a c.ins.length cp]:=aV;have c0:w1.cell? ⟨w.heap.size,1,none⟩=some (.slice a c.ins.length cp):=aV.cell rfl;push_cast -dsimp[c0];refine aK [1,8,9,10,11,12,13,14,15,16,17,18,19,20,21,22,23] (λz wx=>∃(i k':Nat),z 8=.int .i64 i/\z 1=.int .i64 k'/\i<=c.ins.length/\k'<c.ins.length/\sW c (c.ins.length-i) k'=gR c k/\wx=w1) (λz _=>c.ins.length-(intOf (z 8)).toNat) ?_ ?_
 ·exact⟨0,k,rfl,rfl,Nat.zero_le _,hk,rfl,rfl⟩
 intro z wx hI;obtain⟨i,k',h8,h1,hi,CB,hf,rfl⟩:=hI;have hg:=ah (l:=c.ins) (i:=k') CB;obtain⟨x,hx,mm,_⟩:=hg;have hg:=(tS.below aV.below).get hx;obtain⟨b,o,rfl,hX,aU⟩:=hg;have e0:wx.cell? ⟨b,o+k'*3,none⟩=some (.int .i64 x.op):=by simpa using aU 0 _ rfl
 have e1:wx.cell? ⟨b,o+k'*3+1,none⟩=some (.int .i64 x.a):=by simpa using aU 1 _ rfl
 push_cast -dsimp[h8,h1,c0,e0,e1];refine⟨λaj=>⟨⟨by omega,by omega⟩,λh3=>?_,λh3=>?_⟩,λeo=>?_⟩
 ·have e:sW c (c.ins.length-i) k'=k':=by
   rw[show c.ins.length-i=(c.ins.length-i-1)+1 by omega,sW,hx]
   dsimp only;rw[if_neg h3]
  rw[<-hf,e];exact⟨rfl,aV.below⟩
 ·have h3:x.op=3:=Classical.byContradiction h3;have hj:=iU hc hx h3;have e:sW c (c.ins.length-i) k'=sW c (c.ins.length-(i+1)) x.a.toNat:=by
   rw[show c.ins.length-i=(c.ins.length-(i+1))+1 by omega,sW,hx]
   dsimp only;rw[if_pos h3]
  refine⟨⟨by omega,by omega⟩,⟨by omega,by omega⟩,⟨i+1,x.a.toNat,rfl,?_,by omega,hj.2.1,by rw[<-e];exact hf⟩,?_⟩
  ·rw[Int.toNat_of_nonneg hj.1]
  simp only[intOf];omega
 have e:c.ins.length-i=0:=by omega
 rw[e,sW]at hf;rw[<-hf];exact⟨rfl,aV.below⟩
theorem XQ (is:List Bool)(hn:is.length<1000000)(k:Nat)(X:Nat->Prop)(v:Value)(w:World)(hv:Sl X 1 (En aHz) w v is)(hk:k<is.length) :
  ar Tryz.prog 141 [v,.int .i64 k] w λr w'=>r=.int .i64 (q9 is k)/\w'=w:=by
 obtain⟨a,cp,rfl,Qc⟩:=hv.shape;refine aE Tryz.func141 rfl (by kernel_rfl) [4] rfl ?_;push_cast -dsimp(maxSteps:=4000000) [Tryz.ntmps141];refine⟨⟨by omega,by omega⟩,?_⟩;refine aK [4,5,8,9,10,11,12,13,14,15,16,17,18] (λz wx=>∃(i:Nat),z 5=.int .i64 i/\k<i/\i<=is.length/\q9 is k=bO is (is.length-i) i/\wx=w) (λz _=>is.length-(intOf (z 5)).toNat) ?_ ?_
 ·refine⟨k+1,rfl,by omega,by omega,?_,rfl⟩;exact Ah is k (by omega)
 intro z wx hI;obtain⟨i,h5,Ib,hi,hN,rfl⟩:=hI;rcases Nat.lt_or_ge i is.length with aj|eo
 ·have hg:=ah (l:=is) (i:=i) aj;obtain⟨x,hx,mm,_⟩:=hg;have hg:=hv.get hx;obtain⟨b,o,rfl,hX,aU⟩:=hg;have e0:wx.cell? ⟨b,o+i,none⟩=some (.bool x):=by simpa using aU 0 _ rfl
  have es:is.length-i=(is.length-(i+1))+1:=by omega
  cases x with
  | true =>
   push_cast -dsimp[h5,e0];rw[es,G3 hx]at hN;rw[hN];exact⟨λ_=>⟨⟨by omega,by omega⟩,rfl⟩,λh=>absurd h (by omega)⟩
  | false =>
   push_cast -dsimp[h5,e0];rw[es,Cr (by rw[hx];simp) aj]at hN;refine⟨λ_=>⟨⟨by omega,by omega⟩,⟨by omega,by omega⟩,⟨i+1,rfl,by omega,by omega,hN⟩,by simp only[intOf];omega⟩,λh=>absurd h (by omega)⟩
 push_cast -dsimp[h5];refine⟨λh=>absurd h (by omega),λ_=>?_⟩;rw[pE _ eo]at hN;rw[hN]
theorem zR (l:List I3)(hl:l.length<1000000)(X:Nat->Prop)(v:Value)(w:World)(hv:Sl X 3 (En bN) w v l)(cW:l≠[]) :
  ar Tryz.prog 117 [v] w λr w'=>Vc.Own w.heap.size 164 3 bN w' r l/\Below w.heap.size w w':=by
 obtain⟨a,c,rfl,hc⟩:=hv.shape;refine aE Tryz.func117 rfl (by kernel_rfl) [2] rfl ?_;push_cast -dsimp(maxSteps:=4000000) [Tryz.ntmps117];cases a with
 | none =>
  obtain⟨x,r,rfl⟩:=List.exists_cons_of_ne_nil cW;have hg:=hv.get (i:=0) (x:=x) rfl;obtain⟨b,o,h,_⟩:=hg;cases h
 | some ad =>
  push_cast -dsimp[aHG];refine cG ee rfl rfl (by omega) ?_;intro w1 aV;have uN:=aV.own (base:=w.heap.size) (k:=3) (n:=0) (enc:=bN) (l:=[]) rfl rfl (λ_=>rfl) (Nat.le_refl _) (by omega);have ph:=aV.size;push_cast -dsimp;refine lh (base:=w.heap.size) (enc:=bN) (ys:=l) ee uN (hv.below aV.below) (λn c h=>by cases h) jA (by simp only[List.length_nil];omega) (by omega) ?_;intro v' w2 lC C0 dt;rw[List.nil_append]at lC;push_cast -dsimp;exact⟨lC,aV.below.trans dt⟩
end Go.Proofs.YtemjejfpadnljaaGreatDoor
end
section
namespace Go.Proofs.YtemjejfpadnljaaGreatDoor
open Go.Vc Go.Proofs Go.RowKit Cae
attribute [local irreducible] cg aa ag aX runK ar Sl Vc.Own vc aQ br a7
attribute [local irreducible] gR bL
theorem nk {X:Nat->Prop}{base:Nat}{w:World}{sv iv:Value}{c:aD}{sets:List (List Rg)}(hX:∀b,X b->b<base)(so:dp X w sv sets)(ho:Vc.Own base 164 3 bN w iv c.ins)(hs:c.sets=sets):cL X w (.agg #[sv,iv]) c :=
 ⟨sv,iv,rfl,by rw[hs];exact so,ho.sl.weaken hX⟩
theorem Mu (c:aD)(hc:CR c)(X:Nat->Prop)(v:Value)(w:World)(hX:∀b,X b->b<w.heap.size)(hv:cL X w v c) :
  ar Tryz.prog 114 [v] w λr w'=>cL X w' r (oL c)/\Below w.heap.size w w':=by
 have hm:=hc.many;have sg:=hc.one;obtain⟨sv,iv,rfl,aJE,aNk⟩:=hv;have so:dp (λ_=>False) w sv c.sets:=aJE.mono (λ_ _ _=>rfl) (λ_ h=>h.elim);have tS:=aNk.weaken (X':=λ_=>False) (λ_ h=>h.elim);obtain⟨a,cp,rfl,Qc⟩:=tS.shape;have GH:=so.shape;obtain⟨sa,sc,aOg,CH⟩:=GH;refine gh Tryz.func114 rfl (by kernel_rfl) [.cell 2 127] rfl ?_;push_cast -dsimp(maxSteps:=4000000) [Tryz.ntmps114];refine aR ?_;intro w1 aV;have aV:mg w w1 127 [sv,.slice a c.ins.length cp]:=aV;have ph:=aV.size;push_cast -dsimp;refine ao (z:=[.slice none 0 0,.slice none 0 0]) (by kernel_rfl) ?_;intro w2 bH;have BV:=bH.size;have dt:Below w.heap.size w w2:=aV.below.trans (bH.below.mono (by omega));have fx:aL w2 w.heap.size 127 [sv,.slice a c.ins.length cp]:=aV.aM.below bH.below (by omega);have c0:w2.cell? ⟨w.heap.size,1,none⟩=some (.slice a c.ins.length cp):=fx.cell rfl;push_cast -dsimp[c0];refine aA (zR c.ins (by omega) (λ_=>False) _ w2 (tS.below dt) (λh=>by rw[h]at sg;simp at sg)) ?_;rintro v3 w3 ⟨mK,gV⟩;have Kf:=gV.size;have L5:=fx.below gV (by omega);have Zy:aL w3 w1.heap.size 127 [.slice none 0 0,.slice none 0 0]:=bH.aM.below gV (by omega);have lO:=mK.slice;obtain⟨ga,gc,rfl⟩:=lO;have lO:=mK.cut;rcases lO with ⟨_,h0,_⟩|⟨g,rfl,_,hle,_⟩
 ·omega
 have CA:=mK.block g rfl;push_cast -dsimp;refine aC L5 (by simp) rfl ?_;intro w4 ae;have CV:aL w4 w.heap.size 127 [sv,.slice (some ⟨g,0,none⟩) c.ins.length gc]:=ae.aM;have KB:=ae.size;have kQ:=mK.aJ ae.kept (λg' Bz h=>by have:g=g':=(by simpa[Value.ownBlock] using Bz);omega);have hR4:=Zy.kept ae.kept (by omega);have nd:Below w.heap.size w w4:=dt.trans ((gV.mono (by omega)).trans (ae.kept.below (by omega) (λ_ h=>by omega)));have c4:w4.cell? ⟨w.heap.size,1,none⟩=some (.slice (some ⟨g,0,none⟩) c.ins.length gc):=CV.cell rfl;push_cast -dsimp[c4];refine aK [3,4,5,6,14,15,16,17,18,19,20,21,22,23,24,25,26,27,28,29,30,31,32,33,34,35,36,37,38,39,40,41,42,43,44,45,46,47,48,49,50,51,52,53,54,55,56,57,58,59,60,61,62,63] (λz wx=>∃(i:Nat),z 14=.int .i64 i/\i<=c.ins.length/\Vc.Own w2.heap.size 164 3 bN wx (.slice (some ⟨g,0,none⟩) c.ins.length gc) (ai c i).ins/\aL wx w.heap.size 127 [sv,.slice (some ⟨g,0,none⟩) c.ins.length gc] /\
   aL wx w1.heap.size 127 [.slice none 0 0,.slice none 0 0]/\Below w.heap.size w wx/\w4.heap.size<=wx.heap.size) (λz _=>c.ins.length-(intOf (z 14)).toNat) ?_ ?_
 ·exact⟨0,rfl,Nat.zero_le _,kQ,CV,hR4,nd,Nat.le_refl _⟩
 intro z wx hI;obtain⟨i,h14,hi,eG,ns,vf,eW,yS⟩:=hI;have tT:=n5 hc i;obtain⟨hCi,AK,hlen,_,aQy⟩:=tT;push_cast -dsimp[h14];refine⟨λaj=>?_,λeo=>?_⟩
 ·have hg:=ah (l:=(ai c i).ins) (i:=i) (by omega);obtain⟨x,hx,mm,_⟩:=hg;have hg:=eG.sl.get hx;obtain⟨b,o,e,_,aU⟩:=hg;cases e;have ce:aB wx ⟨g,0+i*3,none⟩ 0 3=some (bN x):=ak (bN x) 0 (λj u hu=>by simpa using aU j u hu);rw[Nat.zero_add]at ce;unfold bN at ce;push_cast -dsimp[ce];refine⟨⟨by omega,by omega⟩,?_⟩;refine ao (z:=[.int .i64 0,.int .i64 0,.int .i64 0]) (by kernel_rfl) ?_;intro w5 cH;have Mq:=cH.size;push_cast -dsimp;refine aH (n:=3) (by kernel_rfl) cH.aM rfl (by simp) (by simp[Value.oneCell']) ?_;intro w6 bQ;have KC:=bQ.size;have Bv:aL w6 wx.heap.size 164 [.int .i64 x.op,.int .i64 x.a,.int .i64 x.b]:=bQ.aM;have k6:Kept (λj=>j=wx.heap.size) wx w6:=(Kept.new cH).trans bQ.kept (λ_ _ h=>h);have po:=eG.aJ k6 (λg' Bz h=>by have:=eG.block g' Bz;omega);have rI:=ns.kept k6 (by omega);have Yp:=vf.kept k6 (by omega);have mI:Below w.heap.size w w6:=eW.trans (k6.below (by omega) (λ_ h=>by omega));have c6:w6.cell? ⟨wx.heap.size,0,none⟩=some (.int .i64 x.op):=Bv.cell rfl;push_cast -dsimp[c6];have TK:∀w',Kept (λ_=>False) w6 w'->cL (λ_=>False) w' (.agg #[sv,.slice (some ⟨g,0,none⟩) c.ins.length gc]) (ai c i):=λw' CB =>
   nk (sets:=c.sets) (base:=w2.heap.size) (λ_ h=>h.elim) (dp.below (w:=w6) (dp.below so mI) (CB.below (Nat.le_refl _) (λ_ h=>h.elim))) (po.aJ CB (λ_ _ h=>h)) AK
  have jC:(ai c (i+1)).ins=(ai c i).ins.set i (bL (ai c i) x):=by
   rw[ai];unfold fO;rw[hx]
  refine⟨λh3=>?_,λh3=>?_⟩
  ·have hj:=iU hCi hx h3;have Fp:x.a=((x.a.toNat:Nat):Int):=by rw[Int.toNat_of_nonneg hj.1]
   have ey:bL (ai c i) x=⟨x.op,gR (ai c i) x.a.toNat,x.b⟩:=by unfold bL;rw[if_pos h3]
   refine dU (λw'=>aL w' w.heap.size 127 [sv,.slice (some ⟨g,0,none⟩) c.ins.length gc]/\aL w' wx.heap.size 164 [.int .i64 x.op,.int .i64 x.a,.int .i64 x.b]) mixed (by kernel_rfl) (List.cons_ne_nil _ _) ⟨rI.drew,Bv.drew⟩ ?_;have q1:w6.drew.cell? ⟨w.heap.size,1,none⟩=some (.slice (some ⟨g,0,none⟩) c.ins.length gc):=rI.drew.cell rfl;have q2:w6.drew.cell? ⟨wx.heap.size,1,none⟩=some (.int .i64 x.a):=Bv.drew.cell rfl;have q3:=rI.drew.aB;simp only[List.length_cons,List.length_nil,Nat.zero_add,Nat.reduceAdd]at q3;push_cast -dsimp[q1,q2,q3];refine⟨λbE hC=>fX hC.1 rfl,λbE hC=>G8 hC.1 rfl rfl,λbE hC=>fX hC.2 rfl,?_⟩;have Yv:Kept (λ_=>False) w6 w6.drew:=(Kept.refl _ _).drew;rw[Fp];refine aA (VR (ai c i) hCi x.a.toNat (by omega) (λ_=>False) _ _ (TK _ Yv)) ?_;rintro _ w7 ⟨rfl,kr⟩;have pk:Kept (λ_=>False) w6 w7:=Yv.trans (Kept.aN kr (λj h1 h2=>absurd h2 (by omega))) (λ_ _ h=>h);have KD:=pk.size;have mL:=po.aJ pk (λ_ _ h=>h);have IM:=rI.kept pk id;have yA:=Bv.kept pk id;have IS:=Yp.kept pk id;have Lf:Below w.heap.size w w7:=mI.trans (pk.below (by omega) (λ_ h=>h.elim));rw[<-Fp];refine⟨⟨IM,yA⟩,?_⟩;push_cast -dsimp;refine⟨⟨by omega,by omega⟩,?_⟩;refine fr (i:=i) (f:=1) (y:=bL (ai c i) x) mL rfl hx (by omega) (by rw[ey];rfl) rfl ?_;intro w8 rK TP sz8;rw[<-jC]at rK;have Yk:=IM.kept TP (by omega);have hR8:=IS.kept TP (by omega);have ma:Below w.heap.size w w8:=Lf.trans (TP.below (by omega) (λ_ h=>by omega));push_cast -dsimp
   exact⟨⟨by omega,by omega⟩,⟨i+1,rfl,by omega,rK,Yk,hR8,ma,by omega⟩,by rw[h14];simp only[intOf];omega⟩
  refine⟨λh2=>?_,λh2=>?_⟩
  ·have hj:=mM hCi hx h2;have Fp:x.a=((x.a.toNat:Nat):Int):=by rw[Int.toNat_of_nonneg hj.1]
   have Q5:x.b=((x.b.toNat:Nat):Int):=by rw[Int.toNat_of_nonneg hj.2.2.1]
   refine ba (λw'=>aL w' w.heap.size 127 [sv,.slice (some ⟨g,0,none⟩) c.ins.length gc]/\aL w' wx.heap.size 164 [.int .i64 x.op,.int .i64 x.a,.int .i64 x.b]) mixed (by kernel_rfl) ⟨rI.drew,Bv.drew⟩ ?_;have q1:w6.drew.cell? ⟨wx.heap.size,2,none⟩=some (.int .i64 x.b):=Bv.drew.cell rfl;have q2:w6.drew.cell? ⟨wx.heap.size,1,none⟩=some (.int .i64 x.a):=Bv.drew.cell rfl;have q3:=rI.drew.aB;simp only[List.length_cons,List.length_nil,Nat.zero_add,Nat.reduceAdd]at q3;push_cast -dsimp[q1,q2,q3];refine⟨λbE hC=>G8 hC.1 rfl rfl,λbE hC=>fX hC.2 rfl,?_⟩;have Yv:Kept (λ_=>False) w6 w6.drew:=(Kept.refl _ _).drew;rw[Fp];refine aA (VR (ai c i) hCi x.a.toNat (by omega) (λ_=>False) _ _ (TK _ Yv)) ?_;rintro _ w7 ⟨rfl,kr⟩;have pk:Kept (λ_=>False) w6 w7:=Yv.trans (Kept.aN kr (λj h1 h2=>absurd h2 (by omega))) (λ_ _ h=>h);have KD:=pk.size;have mL:=po.aJ pk (λ_ _ h=>h);have IM:=rI.kept pk id;have yA:=Bv.kept pk id;have IS:=Yp.kept pk id;have Lf:Below w.heap.size w w7:=mI.trans (pk.below (by omega) (λ_ h=>h.elim));rw[<-Fp];refine⟨⟨IM,yA⟩,?_⟩;have q4:=IM.aB;have q5:w7.cell? ⟨wx.heap.size,2,none⟩=some (.int .i64 x.b):=yA.cell rfl;simp only[List.length_cons,List.length_nil,Nat.zero_add,Nat.reduceAdd]at q4;push_cast -dsimp[q4,q5];refine⟨λbE hC=>G8 hC.1 rfl rfl,λbE hC=>fX hC.2 rfl,?_⟩;rw[Q5];refine aA (VR (ai c i) hCi x.b.toNat (by omega) (λ_=>False) _ _ (TK _ pk)) ?_;rintro _ w8 ⟨rfl,ma⟩;have TP:Kept (λ_=>False) w6 w8:=pk.trans (Kept.aN ma (λj h1 h2=>absurd h2 (by omega))) (λ_ _ h=>h);have sz8:=TP.size
   have rK:=po.aJ TP (λ_ _ h=>h);have Yk:=rI.kept TP id;have hT8:=Bv.kept TP id;have hR8:=Yp.kept TP id;have aAl:Below w.heap.size w w8:=mI.trans (TP.below (by omega) (λ_ h=>h.elim));rw[<-Q5];refine⟨⟨Yk,hT8⟩,?_⟩;push_cast -dsimp;refine ba (λw'=>aL w' w.heap.size 127 [sv,.slice (some ⟨g,0,none⟩) c.ins.length gc]) mixed (by kernel_rfl) Yk.drew ?_;have q6:w8.drew.cell? ⟨w.heap.size,1,none⟩=some (.slice (some ⟨g,0,none⟩) c.ins.length gc):=Yk.drew.cell rfl;push_cast -dsimp[q6];refine⟨λbE hC=>fX hC rfl,λbE hC=>fX hC rfl,⟨by omega,by omega⟩,?_⟩;have aNM:=rK.aJ (Kept.refl (λ_=>False) _).drew (λ_ _ h=>h);refine fr (i:=i) (f:=1) (y:=⟨x.op,gR (ai c i) x.a.toNat,x.b⟩) aNM rfl hx (by omega) rfl rfl ?_;intro w9 yH WQ sz9;have Br:=Yk.drew.kept WQ (by omega);have hR9:=hR8.drew.kept WQ (by omega);have p8:Below w.heap.size w w9:=aAl.drew.trans (WQ.below (by show w.heap.size<=w8.heap.size;omega) (λ_ h=>by omega))
   have aUE:w9.heap.size=w8.heap.size:=sz9;refine⟨Br,?_⟩;push_cast -dsimp;refine⟨⟨by omega,by omega⟩,?_⟩;have hx9:((ai c i).ins.set i ⟨x.op,gR (ai c i) x.a.toNat,x.b⟩)[i]?=some ⟨x.op,gR (ai c i) x.a.toNat,x.b⟩:=by rw[List.getElem?_set,if_pos rfl,if_pos (by omega)]
   refine fr (i:=i) (f:=2) (y:=⟨x.op,gR (ai c i) x.a.toNat,gR (ai c i) x.b.toNat⟩) yH rfl hx9 (by omega) rfl rfl ?_;intro T3 aAF aEV aUD;rw[List.set_set]at aAF;have Zl:=Br.kept aEV (by omega);have aIf:=hR9.kept aEV (by omega);have QY:Below w.heap.size w T3:=p8.trans (aEV.below (by omega) (λ_ h=>by omega));have q7:T3.cell? ⟨w.heap.size,1,none⟩=some (.slice (some ⟨g,0,none⟩) c.ins.length gc):=Zl.cell rfl;refine⟨Zl,?_⟩;push_cast -dsimp[q7];refine⟨λhe=>?_,λhe=>?_⟩
   ·have WI:gR (ai c i) x.a.toNat=gR (ai c i) x.b.toNat:=by omega
    have ey:bL (ai c i) x=⟨3,gR (ai c i) x.a.toNat,0⟩:=by unfold bL;rw[if_neg h3,if_pos h2,if_pos WI]
    refine⟨⟨by omega,by omega⟩,?_⟩;refine Sg (k:=3) (i:=i) (y:=bL (ai c i) x) (by kernel_rfl) aAF rfl (by rw[List.length_set];omega) (by rw[ey];rfl) (by simp[Value.oneCell']) ?_;intro TA Ij aEW aKj;rw[List.set_set,<-jC]at Ij;have aLH:=Zl.kept aEW (by omega);have aMb:=aIf.kept aEW (by omega);have aMy:Below w.heap.size w TA:=QY.trans (aEW.below (by omega) (λ_ h=>by omega));push_cast -dsimp;exact⟨⟨by omega,by omega⟩,⟨i+1,rfl,by omega,Ij,aLH,aMb,aMy,by omega⟩,by rw[h14];simp only[intOf];omega⟩
   have WI:¬gR (ai c i) x.a.toNat=gR (ai c i) x.b.toNat:=by omega
   have ey:bL (ai c i) x=⟨x.op,gR (ai c i) x.a.toNat,gR (ai c i) x.b.toNat⟩:=by unfold bL;rw[if_neg h3,if_pos h2,if_neg WI]
   rw[<-ey,<-jC]at aAF;exact⟨⟨by omega,by omega⟩,⟨i+1,rfl,by omega,aAF,Zl,aIf,QY,by omega⟩,by rw[h14];simp only[intOf];omega⟩
  have ey:bL (ai c i) x=x:=by unfold bL;rw[if_neg h3,if_neg h2]
  have e:(ai c (i+1)).ins=(ai c i).ins:=by
   rw[jC,ey];apply List.ext_getElem?;intro j;rw[List.getElem?_set];split
   ·rename_i e;subst e;rw[if_pos (by omega),hx]
   rfl
  rw[<-e]at po;exact⟨⟨by omega,by omega⟩,⟨i+1,rfl,by omega,po,rI,Yp,mI,by omega⟩,by rw[h14];simp only[intOf];omega⟩
 have mc:i=c.ins.length:=by omega
 subst mc;have q3:=ns.aB;simp only[List.length_cons,List.length_nil,Nat.zero_add,Nat.reduceAdd]at q3;push_cast -dsimp[q3];refine aH (n:=2) (by kernel_rfl) vf rfl (by simp) (by simp[aOg,Value.oneCell']) ?_;intro w5 cH;have Mq:=cH.size;have q5:aB w5 ⟨w1.heap.size,0,none⟩ 0 2=some [sv,.slice (some ⟨g,0,none⟩) c.ins.length gc]:=cH.aM.aB;push_cast -dsimp[q5];have aIG:Below w.heap.size w w5:=eW.trans (cH.kept.below (by omega) (λ_ h=>by omega));exact⟨nk (sets:=c.sets) (λb h=>by have:=hX b h;omega) (dp.below aJE aIG) (eG.aJ cH.kept (λg' Bz h=>by have:=eG.block g' Bz;omega)) AK,aIG⟩
end Go.Proofs.YtemjejfpadnljaaGreatDoor
end
section
namespace Go.Proofs.YtemjejfpadnljaaGreatDoor
open Go.Vc Go.Proofs Go.RowKit Cae
attribute [local irreducible] cg aa ag aX runK ar Sl Vc.Own vc aQ br a7
def gX (n:Nat)(q:List Nat):List Value:=(List.range n).map λi=>.bool (decide (i∈q))
theorem oK {n:Nat}{q:List Nat}{k:Nat}(hk:k<n):(gX n q)[k]?=some (.bool (decide (k∈q))):=by
 simp[gX,hk]
theorem SZ {n:Nat}{q:List Nat}{k:Nat}(hk:k<n):(gX n q).set k (.bool true)=gX n (q++[k]):=by
 apply List.ext_getElem?;intro i;rw[List.getElem?_set];by_cases hi:i<n
 ·rw[oK hi,oK hi];split
  ·rename_i e;subst e;rw[if_pos (by simpa[gX] using hk)];simp
  rename_i e;congr 2;rw[decide_eq_decide];simp only[List.mem_append,List.mem_singleton];constructor
  ·intro h;exact .inl h
  rintro(h|h)
  ·exact h
  exact absurd h.symm e
 have h1:(gX n q)[i]?=none:=List.getElem?_eq_none (by simp[gX];omega);have h2:(gX n (q++[k]))[i]?=none:=List.getElem?_eq_none (by simp[gX];omega);rw[h1,h2,if_neg (by omega)]
def Th (w:World)(p n:Nat)(q:List Nat)(F:Nat->Prop):Prop :=
 ∃lv sb,aL w p 184 [lv,.slice (some ⟨sb,0,none⟩) n n]/\Vc.Own 0 3 1 bT w lv q/\aL w sb 4 (gX n q)/\p≠sb/\(∀g,lv.ownBlock=some g->g≠p/\g≠sb/\F g)/\F p/\F sb/\bb n q
theorem Th.kept {w w':World}{p n:Nat}{q:List Nat}{F X:Nat->Prop}(h:Th w p n q F)(hk:Kept X w w')(hX:∀k,F k->¬X k):Th w' p n q F:=by
 obtain⟨lv,sb,h1,h2,h3,h4,h5,h6,h7,h8⟩:=h;exact⟨lv,sb,h1.kept hk (hX p h6),h2.aJ hk (λg hg=>hX g (h5 g hg).2.2),h3.kept hk (hX sb h7),h4,h5,h6,h7,h8⟩
theorem aDE (p n:Nat)(q:List Nat)(F:Nat->Prop)(k:Nat)(hk:k<n)(hn:n<1000000)(w:World)(h:Th w p n q F) :
  ar Tryz.prog 89 [.pointer (some ⟨p,0,none⟩),.int .i64 k] w λ_ w'=>Kept F w w'/\Th w' p n (jM q k) (λj=>F j\/w.heap.size<=j):=by
 obtain⟨lv,sb,hp,hl,hs,cW,hg,hFp,hFs,hP⟩:=h;have c0:w.cell? ⟨p,0,none⟩=some lv:=hp.cell rfl;have c1:w.cell? ⟨p,1,none⟩=some (.slice (some ⟨sb,0,none⟩) n n):=hp.cell rfl;have cs:w.cell? ⟨sb,k,none⟩=some (.bool (decide (k∈q))):=hs.cell (oK hk);refine aE Tryz.func89 rfl (by kernel_rfl) [] rfl ?_;push_cast -dsimp(maxSteps:=4000000) [Tryz.ntmps89];push_cast -dsimp[c1,cs];refine⟨⟨by omega,by omega⟩,?_⟩;have hql:=hP.len;refine⟨λHN=>⟨⟨by omega,by omega⟩,?_⟩,λHN=>?_⟩
 ·have HN:k ∉ q:=HN;refine aC hs (by simp[gX];exact hk) rfl ?_;intro w1 aV;rw[SZ hk]at aV;have HP:=hp.kept aV.kept (by exact cW);have d0:w1.cell? ⟨p,0,none⟩=some lv:=HP.cell rfl;have xB:=hl.aJ aV.kept (λg Bz=>(hg g Bz).2.1);push_cast -dsimp[d0];refine cG bm rfl rfl (by omega) ?_;intro w2 bH;push_cast -dsimp;have hp2:=HP.kept (Kept.new bH (X:=λ_=>False)) id;have gY:=aV.aM.kept (Kept.new bH (X:=λ_=>False)) id;have aT7:=bH.size;have aOh:=aV.size;refine aW (base:=0) [k] (enc:=bT) bm (xB.new bH) rfl (λj u hu=>by simpa using bH.cell hu) (by simp[bT,Value.oneCell']) (by simp only[List.length_cons,List.length_nil];omega) (Nat.zero_le _) ?_;intro v' w3 mK Ng hn3;have hgk:Kept (λj=>lv.ownBlock=some j) w2 w3:=Kept.grown Ng (λ_ h=>h);have hp3:=hp2.kept hgk (λh=>(hg _ h).1 rfl);have lQ:=gY.kept hgk (λh=>(hg _ h).2.1 rfl);obtain⟨a3,c3,hv3⟩:=mK.slice;subst hv3;push_cast -dsimp;refine aC hp3 (by simp) rfl ?_;intro w4 ae;push_cast -dsimp;have k1:Kept F w w1:=aV.kept.weaken (λi _ h=>by subst h;exact hFs);have k2:Kept F w w2:=k1.trans (Kept.new bH (X:=λ_=>False)) (λ_ _ h=>h.elim);have k3:Kept F w w3:=k2.trans hgk (λi _ h=>(hg i h).2.2);have k4:Kept F w w4:=k3.trans ae.kept (λi _ h=>by subst h;exact hFp);have Qk:∀g,(Value.slice a3 (q++[k]).length c3).ownBlock=some g->g≠p/\g≠sb/\(F g\/w.heap.size<=g):=λg K7=>by
   rcases hn3 g K7 with h|h
   ·exact⟨(hg g h).1,(hg g h).2.1,.inl (hg g h).2.2⟩
   have:=hp.lt;have:=hs.lt;exact⟨by omega,by omega,.inr (by omega)⟩
  have e:jM q k=q++[k]:=by unfold jM;rw[if_neg HN]
  refine⟨k4,_,sb,ae.aM,?_,by rw[e];exact lQ.kept ae.kept (λh=>cW h.symm),cW,Qk,.inl hFp,.inl hFs,hP.add hk⟩;rw[e];exact mK.aJ ae.kept (λg K7 h=>(Qk g K7).1 h)
 have HN:k∈q:=Classical.byContradiction HN;have e:jM q k=q:=by unfold jM;rw[if_pos HN]
 refine⟨Kept.refl _ _,?_⟩;rw[e];exact⟨lv,sb,hp,hl,hs,cW,λg h=>⟨(hg g h).1,(hg g h).2.1,.inl (hg g h).2.2⟩,.inl hFp,.inl hFs,hP⟩
theorem S0 {n:Nat}{q:List Nat}{k:Nat}(hk:k<n):(gX n q).set k (.bool false)=gX n (q.filter (·≠k)):=by
 apply List.ext_getElem?;intro i;rw[List.getElem?_set];by_cases hi:i<n
 ·rw[oK hi,oK hi];split
  ·rename_i e;subst e;rw[if_pos (by simpa[gX] using hk)];simp
  rename_i e;congr 2;rw[decide_eq_decide];simp only[List.mem_filter,decide_eq_true_eq];constructor
  ·intro h;exact⟨h,λh=>e h.symm⟩
  exact λh=>h.1
 have h1:(gX n q)[i]?=none:=List.getElem?_eq_none (by simp[gX];omega);have h2:(gX n (q.filter (·≠k)))[i]?=none:=List.getElem?_eq_none (by simp[gX];omega);rw[h1,h2,if_neg (by omega)]
theorem Z2 (p n:Nat)(q:List Nat)(F:Nat->Prop)(hn:n<1000000)(w:World)(h:Th w p n q F) :
  ar Tryz.prog 91 [.pointer (some ⟨p,0,none⟩)] w λ_ w'=>Kept F w w'/\Th w' p n [] F:=by
 obtain⟨lv,sb,hp,hl,hs,cW,hg,hFp,hFs,hP⟩:=h;have c0:w.cell? ⟨p,0,none⟩=some lv:=hp.cell rfl;obtain⟨a,cp,rfl⟩:=hl.slice;have hql:=hP.len;have oh:=hl.sl;refine aE Tryz.func91 rfl (by kernel_rfl) [] rfl ?_;push_cast -dsimp(maxSteps:=4000000) [Tryz.ntmps91];push_cast -dsimp[c0];refine aK [3,9,10,11,12,13,14,15,16,17,18,19] (λz wx=>∃(i:Nat),z 9=.int .i64 i/\i<=q.length/\Kept (·=sb) w wx/\aL wx sb 4 (gX n (q.drop i))) (λz _=>q.length-(intOf (z 9)).toNat) ?_ ?_
 ·exact⟨0,rfl,Nat.zero_le _,Kept.refl _ _,hs⟩
 intro z wx hI;obtain⟨i,h9,hi,hk,hB⟩:=hI;have hpx:=hp.kept hk cW;have d1:wx.cell? ⟨p,1,none⟩=some (.slice (some ⟨sb,0,none⟩) n n):=hpx.cell rfl;have d0:wx.cell? ⟨p,0,none⟩=some (.slice a q.length cp):=hpx.cell rfl;have Ig:=hl.aJ hk (λg Bz h=>(hg g Bz).2.1 h);push_cast -dsimp[h9];refine⟨λaj=>?_,λeo=>?_⟩
 ·obtain⟨x,hx,mm,hd,ht⟩:=ah (l:=q) (i:=i) (by omega);obtain⟨b,o,rfl,hX,aU⟩:=Ig.sl.get hx;have cx:wx.cell? ⟨b,o+i,none⟩=some (.int .i64 x):=by simpa using aU 0 _ rfl
  have hxn:=hP.2 x mm;push_cast -dsimp[cx,d1];refine⟨⟨by omega,by omega⟩,⟨by omega,by omega⟩,?_⟩;refine aC hB (by simp[gX];exact hxn) rfl ?_;intro w1 aV;rw[S0 hxn]at aV;push_cast -dsimp;refine⟨⟨by omega,by omega⟩,⟨i+1,rfl,by omega,hk.trans aV.kept (λ_ _ h=>h),?_⟩,by rw[h9];simp only[intOf];omega⟩;have e:gX n ((q.drop i).filter (·≠x))=gX n (q.drop (i+1)):=by
   have hnd:(q.drop i).Nodup:=hP.1.sublist (List.drop_sublist _ _);rw[hd]at hnd ⊢
   rw[List.filter_cons_of_neg (by simp)];have:(q.drop (i+1)).filter (·≠x)=q.drop (i+1):=List.filter_eq_self.2 (λy hy=>by
    have:=(List.nodup_cons.1 hnd).1;simp only[decide_eq_true_eq];intro h;subst h;exact this hy)
   rw[this]
  rw[e]at aV;exact aV.aM
 rw[List.drop_eq_nil_of_le (by omega)]at hB;push_cast -dsimp[d0];have kE:∀a' c',Vc.Own 0 3 1 bT wx (.slice a' 0 c') []->(∀g,(Value.slice a' 0 c').ownBlock=some g->(Value.slice a q.length cp).ownBlock=some g)->∀w2,yV wx w2 p 184 [.slice a' 0 c',.slice (some ⟨sb,0,none⟩) n n]->Kept F w w2/\Th w2 p n [] F:=λa' c' ho K7 w2 bH=>by
  refine⟨(hk.weaken (λi _ h=>by subst h;exact hFs)).trans bH.kept (λi _ h=>by subst h;exact hFp),_,sb,bH.aM,ho.aJ bH.kept (λg h1 h2=>(hg g (K7 g h1)).1 h2),hB.kept bH.kept (λh=>cW h.symm),cW,λg h1=>hg g (K7 g h1),hFp,hFs,bb.nil n⟩
 rcases Ig.cut with ⟨rfl,hq0,rfl,rfl⟩|⟨g,rfl,_,hle,lO⟩
 ·push_cast -dsimp;refine aC hpx (by simp) rfl ?_;intro w2 bH;push_cast -dsimp;exact kE none 0 Ig (λg h=>h) w2 bH
 push_cast -dsimp;refine⟨by omega,aC hpx (by simp) rfl ?_⟩;intro w2 bH;push_cast -dsimp;exact kE _ cp (lO 0 (Nat.zero_le _)) (λg h=>h) w2 bH
def Bp (D:Nat->Prop)(w:World)(pA pB n:Nat)(q nx:List Nat):Prop :=
 ∃FA FB,Th w pA n q FA/\Th w pB n nx FB/\(∀j,FA j->¬FB j)/\(∀j,FA j->D j/\j<w.heap.size)/\(∀j,FB j->D j/\j<w.heap.size)
theorem Bp.swap {D:Nat->Prop}{w:World}{pA pB n:Nat}{q nx:List Nat}(h:Bp D w pA pB n q nx):Bp D w pB pA n nx q:=by
 obtain⟨FA,FB,h1,h2,h3,h4,h5⟩:=h;exact⟨FB,FA,h2,h1,λj hb ha=>h3 j ha hb,h5,h4⟩
theorem Bp.kept {D X:Nat->Prop}{w w':World}{pA pB n:Nat}{q nx:List Nat}(h:Bp D w pA pB n q nx)(hk:Kept X w w')(hX:∀j,D j->j<w.heap.size->¬X j):Bp D w' pA pB n q nx:=by
 obtain⟨FA,FB,h1,h2,h3,h4,h5⟩:=h;have hs:=hk.size;exact⟨FA,FB,h1.kept hk (λj hj=>hX j (h4 j hj).1 (h4 j hj).2),h2.kept hk (λj hj=>hX j (h5 j hj).1 (h5 j hj).2),h3,λj hj=>⟨(h4 j hj).1,by have:=(h4 j hj).2;omega⟩,λj hj=>⟨(h5 j hj).1,by have:=(h5 j hj).2;omega⟩⟩
theorem Bp.narrow {D D':Nat->Prop}{w:World}{pA pB n:Nat}{q nx:List Nat}(h:Bp D w pA pB n q nx)(hD:∀j,D j->j<w.heap.size->D' j):Bp D' w pA pB n q nx:=by
 obtain⟨FA,FB,h1,h2,h3,h4,h5⟩:=h;exact⟨FA,FB,h1,h2,h3,λj hj=>⟨hD j (h4 j hj).1 (h4 j hj).2,(h4 j hj).2⟩,λj hj=>⟨hD j (h5 j hj).1 (h5 j hj).2,(h5 j hj).2⟩⟩
theorem Bp.places {D:Nat->Prop}{w:World}{pA pB n:Nat}{q nx:List Nat}(h:Bp D w pA pB n q nx):bb n q/\bb n nx:=by
 obtain⟨FA,FB,⟨_,_,_,_,_,_,_,_,_,h1⟩,⟨_,_,_,_,_,_,_,_,_,h2⟩,_⟩:=h;exact⟨h1,h2⟩
theorem Bp.read {D:Nat->Prop}{w:World}{pA pB n:Nat}{q nx:List Nat}(h:Bp D w pA pB n q nx):∃a c,w.cell? ⟨pA,0,none⟩=some (.slice a q.length c)/\Sl (λ_=>False) 1 (En bT) w (.slice a q.length c) q:=by
 obtain⟨FA,FB,⟨lv,sb,hp,hl,_⟩,_⟩:=h;obtain⟨a,c,rfl⟩:=hl.slice;exact⟨a,c,hp.cell rfl,hl.sl.weaken (λ_ h=>h.elim)⟩
theorem oM {D:Nat->Prop}{w:World}{pA pB n:Nat}{q nx:List Nat}(h:Bp D w pA pB n q nx){k:Nat}(hk:k<n)(hn:n<1000000) :
  ar Tryz.prog 89 [.pointer (some ⟨pA,0,none⟩),.int .i64 k] w λ_ w'=>Bp (λj=>D j\/w.heap.size<=j) w' pA pB n (jM q k) nx/\Kept D w w':=by
 obtain⟨FA,FB,h1,h2,h3,h4,h5⟩:=h;refine(aDE pA n q FA k hk hn w h1).mono ?_;rintro _ w' ⟨CB,hT⟩;have hs:=CB.size;refine⟨⟨λj=>(FA j\/w.heap.size<=j)/\j<w'.heap.size,FB,?_,h2.kept CB (λj hj hh=>h3 j hh hj),λj ⟨hj,_⟩ hb=>?_,λj ⟨hj,hl⟩=>⟨?_,hl⟩,λj hj=>⟨.inl (h5 j hj).1,by have:=(h5 j hj).2;omega⟩⟩,CB.weaken (λi _ hi=>(h4 i hi).1)⟩
 ·obtain⟨lv,sb,g1,g2,g3,g4,g5,g6,g7,g8⟩:=hT;exact⟨lv,sb,g1,g2,g3,g4,λg hg=>⟨(g5 g hg).1,(g5 g hg).2.1,(g5 g hg).2.2,(g2.block g hg).2⟩,⟨g6,g1.lt⟩,⟨g7,g3.lt⟩,g8⟩
 ·rcases hj with hj|hj
  ·exact h3 j hj hb
  have:=(h5 j hb).2;omega
 rcases hj with hj|hj
 ·exact .inl (h4 j hj).1
 exact .inr hj
theorem NA {D:Nat->Prop}{w:World}{pA pB n:Nat}{q nx:List Nat}(h:Bp D w pA pB n q nx)(hn:n<1000000) :
  ar Tryz.prog 91 [.pointer (some ⟨pA,0,none⟩)] w λ_ w'=>Bp D w' pA pB n [] nx/\Kept D w w':=by
 obtain⟨FA,FB,h1,h2,h3,h4,h5⟩:=h;refine(Z2 pA n q FA hn w h1).mono ?_;rintro _ w' ⟨CB,hT⟩;have hs:=CB.size;exact⟨⟨FA,FB,hT,h2.kept CB (λj hj hh=>h3 j hh hj),h3,λj hj=>⟨(h4 j hj).1,by have:=(h4 j hj).2;omega⟩,λj hj=>⟨(h5 j hj).1,by have:=(h5 j hj).2;omega⟩⟩,CB.weaken (λi _ hi=>(h4 i hi).1)⟩
theorem xQ {P:Program}{bt e:TypeId}{bytes:Nat}{z:Value}{n:Nat}{t:Fr}{w:World}{K:VK}{Q:EP}{p}(hE:Bq P bt=some (e,1,bytes))(hz:(P.info? e).bind (·.zero)=some z)(hz1:jt z=true)(hb:bytes*n<=281474976710656)(hn:n<=140737488355328)
  (kk:∀w',mg w w' e (List.replicate n z)->K (.slice (some ⟨w.heap.size,0,none⟩) n n) w'):ag P (Instr.makeSlice bt (.int .i64 n) (.int .i64 n)) t w K Q p:=by
 obtain⟨hu,i,z',hi,hz',hk,rfl,TW,_,_⟩:=nn hE;rw[hi]at hz;simp only[Option.bind_some]at hz;rw[hz']at hz;cases hz
 have:=run_make (P:=P) w bt e i z hu hi hz' .i64 .i64 n n (by omega) (Int.le_refl _) (by rw[<-Int.natCast_mul];omega) (by omega);refine ff this ?_;simp only[Int.toNat_natCast];refine kk _ ⟨?_⟩;congr 2;have hzc:z.cells=#[z]:=by cases z<;>simp_all [jt,Value.cells]
 rw[hzc,hk];apply Array.ext';simp only[madeCells,Array.toList_map,Array.toList_range];apply List.ext_getElem?;intro j;simp only[List.getElem?_map,List.getElem?_replicate,Nat.mul_one];by_cases hj:j<n
 ·simp[hj,Nat.mod_one]
 simp[hj]
def sP (c:aD)(is:List Bool)(wt:List Nat):Prop:=(is[0]?=some true\/0∈wt)/\∀(i:Nat) (x:I3),is[i]?=some true->c.ins[i]?=some x->∀j,tX c x i j->is[j]?=some true\/j∈wt
theorem sP.skip {c:aD}{is:List Bool}{r:List Nat}{k:Nat}(h:sP c is (r++[k]))(hk:is[k]?=some true):sP c is r:=by
 have hm:∀j,j∈r++[k]->is[j]?=some true\/j∈r:=λj hj=>by
  rw[List.mem_append,List.mem_singleton]at hj;rcases hj with hj|rfl
  ·exact .inr hj
  exact .inl hk
 exact⟨h.1.elim .inl (hm 0),λi x h1 h2 j hj=>(h.2 i x h1 h2 j hj).elim .inl (hm j)⟩
theorem sP.step {c:aD}{is:List Bool}{r ys:List Nat}{k:Nat}{x:I3}(h:sP c is (r++[k]))(hk:k<is.length)(hx:c.ins[k]?=some x)(hy:∀j,tX c x k j->j∈ys):sP c (is.set k true) (r++ys):=by
 have sk:∀j:Nat,is[j]?=some true->(is.set k true)[j]?=some true:=λj hj=>by
  rw[List.getElem?_set];by_cases e:k=j
  ·rw[if_pos e,if_pos hk]
  rw[if_neg e];exact hj
 have hm:∀j,j∈r++[k]->(is.set k true)[j]?=some true\/j∈r++ys:=λj hj=>by
  rw[List.mem_append,List.mem_singleton]at hj;rcases hj with hj|rfl
  ·exact .inr (List.mem_append.2 (.inl hj))
  exact .inl (by rw[List.getElem?_set,if_pos rfl,if_pos hk])
 refine⟨h.1.elim (λh=>.inl (sk 0 h)) (hm 0),λi y h1 h2 j hj=>?_⟩;by_cases e:i=k
 ·subst e;rw[hx]at h2;cases h2;exact .inr (List.mem_append.2 (.inr (hy j hj)))
 rw[List.getElem?_set,if_neg (λh=>e h.symm)]at h1;exact(h.2 i y h1 h2 j hj).elim (λh=>.inl (sk j h)) (hm j)
theorem sP.done {c:aD}{is:List Bool}(h:sP c is [])(hl:is.length=c.ins.length):sM c is :=
 ⟨hl,h.1.elim id (λh=>by cases h),λi x h1 h2 j hj=>(h.2 i x h1 h2 j hj).elim id (λh=>by cases h)⟩
def xJ (is:List Bool):List Value:=is.map .bool
def cntF (w:World)(sb:Nat):Nat:=match w.heap[sb]? with
 | some (.cells cs _ _)=>(cs.toList.filter (λv=>match v with|.bool false=>true|_=>false)).length
 | _=>0
def Iz:Value->Nat
 | .slice _ n _=>n
 | _=>0
theorem gI {w:World}{sb:Nat}{e:TypeId}{is:List Bool}(h:aL w sb e (xJ is)):cntF w sb=(is.filter (! ·)).length:=by
 unfold cntF;rw[show w.heap[sb]?=_ from h]
 simp only[xJ];clear h;induction is with
 | nil=>rfl
 | cons b l ih =>
  cases b<;>simp[List.filter_cons]at ih ⊢<;>exact ih
theorem fh:∀(is:List Bool) (k:Nat),is[k]?=some false->((is.set k true).filter (! ·)).length+1=(is.filter (! ·)).length
 | [],k,h=>by simp at h
 | b::l,0,h=>by simp at h;subst h;simp
 | b::l,k+1,h=>by
  have:=fh l k (by simpa using h);cases b<;>simp[List.filter_cons]<;>omega
theorem SH (c:aD)(hc:CR c)(v:Value)(w:World)(hv:cL (λ_=>False) w v c) :
  ar Tryz.prog 140 [v] w λr w'=>(∃is sb,r=.slice (some ⟨sb,0,none⟩) c.ins.length c.ins.length/\aL w' sb 4 (xJ is)/\sM c is/\w.heap.size<=sb)/\Below w.heap.size w w':=by
 have hm:=hc.many;have sg:=hc.one;have Nw:=hv;obtain⟨sv,iv,rfl,so,tS⟩:=hv;obtain⟨a,cp,rfl,Qc⟩:=tS.shape;have GH:=so.shape;obtain⟨sa,sc,rfl,CH⟩:=GH;refine aE Tryz.func140 rfl (by kernel_rfl) [2] rfl ?_;push_cast -dsimp(maxSteps:=4000000) [Tryz.ntmps140];refine aR ?_;intro w1 aV;have aV:mg w w1 127 [.slice sa c.sets.length sc,.slice a c.ins.length cp]:=aV;have ph:=aV.size;have c0:w1.cell? ⟨w.heap.size,1,none⟩=some (.slice a c.ins.length cp):=aV.cell rfl;push_cast -dsimp[c0];refine xQ (z:=.bool false) o7 (by kernel_rfl) rfl (by omega) (by omega) ?_;intro w2 bH;have BV:=bH.size;push_cast -dsimp;refine cG bm rfl rfl (by omega) ?_;intro w3 cM;have Kf:=cM.size;have mK:=cM.own (base:=w2.heap.size) (k:=1) (n:=1) (enc:=bT) (l:=[0]) rfl rfl (λ_=>rfl) (Nat.le_refl _) (by omega);have L5:aL w3 w1.heap.size 4 (xJ (List.replicate c.ins.length false)):=by
  have:=bH.aM.below cM.below (by omega);unfold xJ;rw[List.map_replicate];exact this
 have hC3:aL w3 w.heap.size 127 [.slice sa c.sets.length sc,.slice a c.ins.length cp]:=(aV.aM.below bH.below (by omega)).below cM.below (by omega);have gV:Below w.heap.size w w3:=aV.below.trans ((bH.below.mono (by omega)).trans (cM.below.mono (by omega)));push_cast -dsimp;refine aK [4,5,6,12,13,14,15,16,17,18,19,20,21,22,23,24,25,26,27,28,29,30,31,32,33,34,35,36,37,38,39,40,41,42,43,44,45,46,47,48,49,50,51,52,53,54,55,56,57,58,59,60,61,62,63,64,65,66,67,68,69,70,71,72,73,74,75,76,77] (λz wx=>∃(is:List Bool) (wt:List Nat) (wv:Value),z 4=wv/\Vc.Own w2.heap.size 3 1 bT wx wv wt/\aL wx w1.heap.size 4 (xJ is)/\is.length=c.ins.length/\(∀k∈wt,k<c.ins.length)/\sP c is wt/\wt.length+2*(is.filter (! ·)).length<=2*c.ins.length+1 /\
   aL wx w.heap.size 127 [.slice sa c.sets.length sc,.slice a c.ins.length cp]/\Below w.heap.size w wx) (λz wx=>3*cntF wx w1.heap.size+Iz (z 4)) ?_ ?_
 ·refine⟨List.replicate c.ins.length false,[0],_,rfl,mK,L5,by simp,by simp;omega,⟨.inr (by simp),λi x h=>?_⟩,by simp;omega,hC3,gV⟩;rw[List.getElem?_replicate]at h;split at h<;>simp at h
 intro z wx hI;obtain⟨is,wt,wv,h4,eG,ns,I8,hwt,xF,hwl,Zo,eW⟩:=hI;have oh:=eG.slice;obtain⟨wa,wc,rfl⟩:=oh;have yS:=eW.size;have hBl:=ns.lt;rcases List.eq_nil_or_concat wt with rfl|⟨r,k,aJO⟩
 ·push_cast -dsimp[h4];exact⟨⟨is,_,rfl,ns,xF.done I8,by omega⟩,eW⟩
 rw[List.concat_eq_append]at aJO;subst aJO;have WR:=hwt k (by simp);have lO:=eG.cut;rcases lO with ⟨_,h0,_⟩|⟨g,rfl,_,hle,lO⟩
 ·simp at h0
 have WE:=lO r.length (by simp);rw[List.take_left]at WE;have CA:=eG.block g rfl;have Ka:r.length<=2*c.ins.length:=by rw[List.length_append,List.length_singleton]at hwl;omega
 rw[List.length_append,List.length_singleton]at hle;have h4':z 4=.slice (some ⟨g,0,none⟩) (r.length+1) wc:=by rw[h4,List.length_append];rfl
 have hgk:=eG.sl.get (i:=r.length) (x:=k) (by rw[List.getElem?_append_right (Nat.le_refl _),Nat.sub_self];rfl);obtain⟨b,o,e,_,aU⟩:=hgk;cases e;have cw:wx.cell? ⟨g,r.length,none⟩=some (.int .i64 k):=by simpa using aU 0 _ rfl
 have hgi:=ah (l:=is) (i:=k) (by omega);obtain⟨bk,hbk,_⟩:=hgi;have ck:wx.cell? ⟨w1.heap.size,k,none⟩=some (.bool bk):=ns.cell (by unfold xJ;rw[List.getElem?_map,hbk];rfl);have oU:=ah (l:=c.ins) (i:=k) WR;obtain⟨x,hx,_⟩:=oU;have hC1:wx.cell? ⟨w.heap.size,1,none⟩=some (.slice a c.ins.length cp):=Zo.cell rfl;have aNd:=(tS.below eW).get hx;obtain⟨ib,io,rfl,_,hic⟩:=aNd;have ci:aB wx ⟨ib,io+k*3,none⟩ 0 3=some (bN x):=ak (bN x) 0 (λj u hu=>by simpa using hic j u hu);unfold bN at ci;cases bk with
 | true =>
  push_cast -dsimp[h4',Int.add_sub_cancel,cw,ck,hC1];refine⟨λ_=>⟨⟨by omega,by omega⟩,⟨by omega,by omega⟩,⟨by omega,by omega⟩,⟨by omega,by omega⟩,?_⟩,λh=>absurd h (by omega)⟩;exact⟨⟨by omega,by omega⟩,⟨is,r,_,rfl,WE,ns,I8,λj hj=>hwt j (by simp[hj]),xF.skip hbk,by rw[List.length_append]at hwl;omega,Zo,eW⟩,by simp only[Iz];omega⟩
 | false =>
  push_cast -dsimp[h4',Int.add_sub_cancel,cw,ck,hC1];refine⟨λ_=>⟨⟨by omega,by omega⟩,⟨by omega,by omega⟩,⟨by omega,by omega⟩,⟨by omega,by omega⟩,?_⟩,λh=>absurd h (by omega)⟩;have kM:=hbk;refine⟨⟨by omega,by omega⟩,⟨by omega,by omega⟩,?_⟩;refine aC ns (by unfold xJ;rw[List.length_map];omega) rfl ?_;intro w4 ae;have CV:aL w4 w1.heap.size 4 (xJ (is.set k true)):=by
   have:=ae.aM;unfold xJ at this ⊢
   rw[List.map_set];exact this
  have KB:=ae.size;have hC4:=Zo.kept ae.kept (by omega);have kQ:=WE.aJ ae.kept (λg' Bz h=>by have:g=g':=(by simpa[Value.ownBlock] using Bz);omega);have nd:Below w.heap.size w w4:=eW.trans (ae.kept.below (by omega) (λ_ h=>by omega));have ci4:aB w4 ⟨ib,io+k*3,none⟩ 0 3=some [.int .i64 x.op,.int .i64 x.a,.int .i64 x.b]:=by
   have C0:=((tS.below nd)).get hx;obtain⟨ib',io',e',_,aNh⟩:=C0;cases e';exact ak (bN x) 0 (λj u hu=>by simpa using aNh j u hu)
  have aLN:w4.cell? ⟨w.heap.size,1,none⟩=some (.slice (some ⟨ib,io,none⟩) c.ins.length cp):=hC4.cell rfl;push_cast -dsimp[aLN,ci4];refine⟨⟨by omega,by omega⟩,?_⟩;refine ao (z:=[.int .i64 0,.int .i64 0,.int .i64 0]) (by kernel_rfl) ?_;intro w5 cH;have Mq:=cH.size;push_cast -dsimp;refine aH (n:=3) (by kernel_rfl) cH.aM rfl (by simp) (by simp[Value.oneCell']) ?_;intro w6 bQ;have KC:=bQ.size;have Bv:aL w6 w4.heap.size 164 [.int .i64 x.op,.int .i64 x.a,.int .i64 x.b]:=bQ.aM;have k6:Kept (λj=>j=w4.heap.size) w4 w6:=(Kept.new cH).trans bQ.kept (λ_ _ h=>h);have po:=kQ.aJ k6 (λg' Bz h=>by have:=kQ.block g' Bz;omega);have rI:=CV.kept k6 (by omega);have Vh:=hC4.kept k6 (by omega);have mI:Below w.heap.size w w6:=nd.trans (k6.below (by omega) (λ_ h=>by omega));have t0:w6.cell? ⟨w4.heap.size,0,none⟩=some (.int .i64 x.op):=Bv.cell rfl;have t1:w6.cell? ⟨w4.heap.size,1,none⟩=some (.int .i64 x.a):=Bv.cell rfl;have t2:w6.cell? ⟨w4.heap.size,2,none⟩=some (.int .i64 x.b):=Bv.cell rfl;have s0:w6.cell? ⟨w.heap.size,0,none⟩=some (.slice sa c.sets.length sc):=Vh.cell rfl;push_cast -dsimp[t0,t1,t2,s0];have aCY:=cJ (hc.ins k x hx);rcases aCY with ⟨e,g1,g2,g3⟩|⟨e,g1,g2,g3,g4⟩|⟨e,g1,g2,g3⟩|⟨e|e,g1,g2⟩
  ·have jC:=hc.next k x hx (.inl e);have Fp:x.a=((x.a.toNat:Nat):Int):=by rw[Int.toNat_of_nonneg g1]
   have hgs:=ah (l:=c.sets) (i:=x.a.toNat) (by omega);obtain⟨ss,hss,_⟩:=hgs;have hgs:=Sl.xw (dp.below so mI) hss;obtain⟨qb,qo,qcs,rfl,_,hqk,hqc,u,rfl,hu⟩:=hgs;have fa:=hu.shape;obtain⟨ua,uc,rfl,_⟩:=fa;have cq:w6.cell? ⟨qb,qo+x.a.toNat,none⟩=some (.slice ua ss.length uc):=by simpa using hqc 0 _ rfl
   have hsd:c.sets.getD x.a.toNat []=ss:=by rw[List.getD_eq_getElem?_getD,hss];rfl
   have ge:decide (x.op=1)=true:=decide_eq_true e;refine⟨λ_=>⟨⟨by omega,by omega⟩,?_⟩,λh=>absurd e h⟩;push_cast -dsimp[cq];refine⟨λyJ=>?_,λhzero=>?_⟩
   ·refine⟨⟨by omega,by omega⟩,?_⟩;have hy:∀j,tX c x k j->j∈[k+1]:=λj hj=>by
     rcases hj with ⟨e',_⟩|⟨e',_⟩|⟨e',rfl⟩|⟨e',_,rfl⟩<;>first|(exfalso;omega)|simp
    refine cG bm rfl rfl (by omega) ?_;intro w7 fK;have KD:=fK.size;push_cast -dsimp;refine aW (base:=w2.heap.size) [k+1] (enc:=bT) bm (po.new fK) (by rfl) (λj u hu=>by simpa[bT] using fK.cell hu) (by simp[bT,Value.oneCell']) (by simp only[List.length_cons,List.length_nil];omega) (by omega) ?_;intro v9 w9 yH Yu hn9;have WQ:Kept (λj=>j=g) w7 w9:=Kept.grown Yu (λj h=>by have:g=j:=(by simpa[Value.ownBlock] using h);omega);have k9:Kept (λj=>j=g) w6 w9:=(Kept.new fK).trans WQ (λ_ _ h=>h);have Br:=rI.kept k9 (by omega);have Vi:=Vh.kept k9 (by omega);have p8:Below w.heap.size w w9:=mI.trans (k9.below (by omega) (λ_ h=>by omega));have Lr:=yH.slice;obtain⟨a9,c9,rfl⟩:=Lr;push_cast -dsimp;have oV:sP c (is.set k true) (r++[k+1]):=xF.step (by omega) hx hy;refine⟨⟨is.set k true,r++[k+1],_,rfl,yH,Br,by rw[List.length_set];exact I8,?_,oV,?_,Vi,p8⟩,?_⟩
    ·intro j hj;rw[List.mem_append]at hj;rcases hj with hj|hj
     ·exact hwt j (List.mem_append.2 (.inl hj))
     simp at hj
     all_goals omega
    ·have:=fh is k kM;simp only[List.length_append,List.length_cons,List.length_nil]at hwl ⊢
     omega
    rw[gI Br,gI ns,h4]
    have:=fh is k kM;simp only[Iz,List.length_append,List.length_cons,List.length_nil];omega
   have hs0:ss=[]:=List.eq_nil_of_length_eq_zero (by omega);have hy:∀j,tX c x k j->j∈([]:List Nat):=λj hj=>by
    rcases hj with ⟨e',_⟩|⟨e',_⟩|⟨e',rfl⟩|⟨e',hh,rfl⟩<;>first|(exfalso;omega)|exact absurd (hsd.trans hs0) hh
   have yH:Vc.Own w2.heap.size 3 1 bT w6 (.slice (some ⟨g,0,none⟩) r.length wc) (r++[]):=by rw[List.append_nil];exact po
   have Br:=rI;have Vi:=Vh;have p8:=mI;have oV:sP c (is.set k true) (r++[]):=xF.step (by omega) hx hy;refine⟨⟨is.set k true,r++[],_,rfl,yH,Br,by rw[List.length_set];exact I8,?_,oV,?_,Vi,p8⟩,?_⟩
   ·intro j hj;rw[List.mem_append]at hj;rcases hj with hj|hj
    ·exact hwt j (List.mem_append.2 (.inl hj))
    simp at hj
    all_goals omega
   ·have:=fh is k kM;simp only[List.length_append,List.length_cons,List.length_nil]at hwl ⊢
    omega
   rw[gI Br,gI ns,h4]
   have:=fh is k kM;simp only[Iz,List.length_append,List.length_cons,List.length_nil];omega
  ·have Fp:x.a=((x.a.toNat:Nat):Int):=by rw[Int.toNat_of_nonneg g1]
   have Q5:x.b=((x.b.toNat:Nat):Int):=by rw[Int.toNat_of_nonneg g3]
   refine⟨λh=>absurd h (by omega),λ_=>⟨λh=>absurd h (by omega),λ_=>⟨λh=>absurd h (by omega),λ_=>⟨λ_=>?_,λh=>absurd e h⟩⟩⟩⟩;have hy:∀j,tX c x k j->j∈[x.a.toNat,x.b.toNat]:=λj hj=>by
    rcases hj with ⟨e',rfl|rfl⟩|⟨e',_⟩|⟨e',rfl⟩|⟨e',hh,rfl⟩<;>first|(exfalso;omega)|simp
   rw[Fp,Q5];refine cG bm rfl rfl (by omega) ?_;intro w7 fK;have KD:=fK.size;push_cast -dsimp;refine aW (base:=w2.heap.size) [x.a.toNat,x.b.toNat] (enc:=bT) bm (po.new fK) (by rfl) (λj u hu=>by simpa[bT] using fK.cell hu) (by simp[bT,Value.oneCell']) (by simp only[List.length_cons,List.length_nil];omega) (by omega) ?_;intro v9 w9 yH Yu hn9;have WQ:Kept (λj=>j=g) w7 w9:=Kept.grown Yu (λj h=>by have:g=j:=(by simpa[Value.ownBlock] using h);omega);have k9:Kept (λj=>j=g) w6 w9:=(Kept.new fK).trans WQ (λ_ _ h=>h);have Br:=rI.kept k9 (by omega);have Vi:=Vh.kept k9 (by omega);have p8:Below w.heap.size w w9:=mI.trans (k9.below (by omega) (λ_ h=>by omega));have Lr:=yH.slice;obtain⟨a9,c9,rfl⟩:=Lr;push_cast -dsimp;have oV:sP c (is.set k true) (r++[x.a.toNat,x.b.toNat]):=xF.step (by omega) hx hy;refine⟨⟨is.set k true,r++[x.a.toNat,x.b.toNat],_,rfl,yH,Br,by rw[List.length_set];exact I8,?_,oV,?_,Vi,p8⟩,?_⟩
   ·intro j hj;rw[List.mem_append]at hj;rcases hj with hj|hj
    ·exact hwt j (List.mem_append.2 (.inl hj))
    simp at hj
    all_goals omega
   ·have:=fh is k kM;simp only[List.length_append,List.length_cons,List.length_nil]at hwl ⊢
    omega
   rw[gI Br,gI ns,h4]
   have:=fh is k kM;simp only[Iz,List.length_append,List.length_cons,List.length_nil];omega
  ·have Fp:x.a=((x.a.toNat:Nat):Int):=by rw[Int.toNat_of_nonneg g1]
   refine⟨λh=>absurd h (by omega),λ_=>⟨λh=>absurd h (by omega),λ_=>⟨λ_=>?_,λh=>absurd e h⟩⟩⟩;have hy:∀j,tX c x k j->j∈[x.a.toNat]:=λj hj=>by
    rcases hj with ⟨e',_⟩|⟨e',rfl⟩|⟨e',rfl⟩|⟨e',hh,rfl⟩<;>first|(exfalso;omega)|simp
   rw[Fp];refine cG bm rfl rfl (by omega) ?_;intro w7 fK;have KD:=fK.size;push_cast -dsimp;refine aW (base:=w2.heap.size) [x.a.toNat] (enc:=bT) bm (po.new fK) (by rfl) (λj u hu=>by simpa[bT] using fK.cell hu) (by simp[bT,Value.oneCell']) (by simp only[List.length_cons,List.length_nil];omega) (by omega) ?_;intro v9 w9 yH Yu hn9;have WQ:Kept (λj=>j=g) w7 w9:=Kept.grown Yu (λj h=>by have:g=j:=(by simpa[Value.ownBlock] using h);omega);have k9:Kept (λj=>j=g) w6 w9:=(Kept.new fK).trans WQ (λ_ _ h=>h);have Br:=rI.kept k9 (by omega);have Vi:=Vh.kept k9 (by omega);have p8:Below w.heap.size w w9:=mI.trans (k9.below (by omega) (λ_ h=>by omega));have Lr:=yH.slice;obtain⟨a9,c9,rfl⟩:=Lr;push_cast -dsimp;have oV:sP c (is.set k true) (r++[x.a.toNat]):=xF.step (by omega) hx hy;refine⟨⟨is.set k true,r++[x.a.toNat],_,rfl,yH,Br,by rw[List.length_set];exact I8,?_,oV,?_,Vi,p8⟩,?_⟩
   ·intro j hj;rw[List.mem_append]at hj;rcases hj with hj|hj
    ·exact hwt j (List.mem_append.2 (.inl hj))
    simp at hj
    all_goals omega
   ·have:=fh is k kM;simp only[List.length_append,List.length_cons,List.length_nil]at hwl ⊢
    omega
   rw[gI Br,gI ns,h4]
   have:=fh is k kM;simp only[Iz,List.length_append,List.length_cons,List.length_nil];omega
  ·have jC:=hc.next k x hx (.inr e);refine⟨λh=>absurd h (by omega),λ_=>⟨λ_=>⟨⟨by omega,by omega⟩,?_⟩,λh=>absurd e h⟩⟩;have hy:∀j,tX c x k j->j∈[k+1]:=λj hj=>by
    rcases hj with ⟨e',_⟩|⟨e',_⟩|⟨e',rfl⟩|⟨e',_,rfl⟩<;>first|(exfalso;omega)|simp
   refine cG bm rfl rfl (by omega) ?_;intro w7 fK;have KD:=fK.size;push_cast -dsimp;refine aW (base:=w2.heap.size) [k+1] (enc:=bT) bm (po.new fK) (by rfl) (λj u hu=>by simpa[bT] using fK.cell hu) (by simp[bT,Value.oneCell']) (by simp only[List.length_cons,List.length_nil];omega) (by omega) ?_;intro v9 w9 yH Yu hn9;have WQ:Kept (λj=>j=g) w7 w9:=Kept.grown Yu (λj h=>by have:g=j:=(by simpa[Value.ownBlock] using h);omega);have k9:Kept (λj=>j=g) w6 w9:=(Kept.new fK).trans WQ (λ_ _ h=>h);have Br:=rI.kept k9 (by omega);have Vi:=Vh.kept k9 (by omega);have p8:Below w.heap.size w w9:=mI.trans (k9.below (by omega) (λ_ h=>by omega));have Lr:=yH.slice;obtain⟨a9,c9,rfl⟩:=Lr;push_cast -dsimp;have oV:sP c (is.set k true) (r++[k+1]):=xF.step (by omega) hx hy;refine⟨⟨is.set k true,r++[k+1],_,rfl,yH,Br,by rw[List.length_set];exact I8,?_,oV,?_,Vi,p8⟩,?_⟩
   ·intro j hj;rw[List.mem_append]at hj;rcases hj with hj|hj
    ·exact hwt j (List.mem_append.2 (.inl hj))
    simp at hj
    all_goals omega
   ·have:=fh is k kM;simp only[List.length_append,List.length_cons,List.length_nil]at hwl ⊢
    omega
   rw[gI Br,gI ns,h4]
   have:=fh is k kM;simp only[Iz,List.length_append,List.length_cons,List.length_nil];omega
  refine⟨λh=>absurd h (by omega),λ_=>⟨λh=>absurd h (by omega),λ_=>⟨λh=>absurd h (by omega),λ_=>⟨λh=>absurd h (by omega),λ_=>?_⟩⟩⟩⟩;have hy:∀j,tX c x k j->j∈([]:List Nat):=λj hj=>by
   rcases hj with ⟨e',_⟩|⟨e',_⟩|⟨e',rfl⟩|⟨e',hh,rfl⟩<;>(exfalso;omega)
  have yH:Vc.Own w2.heap.size 3 1 bT w6 (.slice (some ⟨g,0,none⟩) r.length wc) (r++[]):=by rw[List.append_nil];exact po
  have Br:=rI;have Vi:=Vh;have p8:=mI;have oV:sP c (is.set k true) (r++[]):=xF.step (by omega) hx hy;refine⟨⟨is.set k true,r++[],_,rfl,yH,Br,by rw[List.length_set];exact I8,?_,oV,?_,Vi,p8⟩,?_⟩
  ·intro j hj;rw[List.mem_append]at hj;rcases hj with hj|hj
   ·exact hwt j (List.mem_append.2 (.inl hj))
   simp at hj
   all_goals omega
  ·have:=fh is k kM;simp only[List.length_append,List.length_cons,List.length_nil]at hwl ⊢
   omega
  rw[gI Br,gI ns,h4]
  have:=fh is k kM;simp only[Iz,List.length_append,List.length_cons,List.length_nil];omega
end Go.Proofs.YtemjejfpadnljaaGreatDoor
end
section
namespace Go.Proofs.YtemjejfpadnljaaGreatDoor
open Go.Vc Go.Proofs Go.RowKit Cae
end Go.Proofs.YtemjejfpadnljaaGreatDoor
end
