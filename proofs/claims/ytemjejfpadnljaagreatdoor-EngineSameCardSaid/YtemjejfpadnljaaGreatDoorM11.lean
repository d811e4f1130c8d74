/- Part. -/
import Derived.ProofKit
import Derived.Handy
import Derived.OpenShut
import Derived.LaidMore
import Derived.Deep.Strs
import Derived.Test.YtemjejfpadnljaaGreatDoorM9
set_option maxRecDepth 100000
set_option linter.unusedSimpArgs false
set_option linter.unusedVariables false
set_option maxHeartbeats 8000000
namespace Go.Vc
open Go.RowKit
theorem yh {α:Type}(Pr:Nat->α->Prop):∀n,(∀i,i<n->∃x,Pr i x)->∃l:List α,l.length=n/\∀i x,l[i]?=some x->Pr i x
 | 0,_=>⟨[],rfl,λi x h=>by simp at h⟩
 | n+1,h=>by
  obtain⟨l,hl,hp⟩:=yh Pr n (λi hi=>h i (by omega));obtain⟨y,hy⟩:=h n (by omega);refine⟨l++[y],by simp[hl],λi x hx=>?_⟩;rcases Nat.lt_trichotomy i n with aq|heq|JQ
  ·rw[List.getElem?_append_left (by omega)]at hx;exact hp i x hx
  ·subst heq;rw[List.getElem?_append_right (by omega),hl,Nat.sub_self]at hx;simp at hx;subst hx;exact hy
  rw[List.getElem?_eq_none (by simp[hl];omega)]at hx;cases hx
theorem mapM_cells {w:World}{a:Addr}:∀(n s:Nat) (cs:List Value),((List.range' s n).mapM λi=>w.cell? (a.add i))=some cs->cs.length=n/\∀j u,cs[j]?=some u->w.cell? (a.add (s+j))=some u
 | 0,s,cs,h=>by
  simp at h;subst h;exact⟨rfl,λj u hu=>by simp at hu⟩
 | n+1,s,cs,h=>by
  rw[List.range'_succ,List.mapM_cons]at h;cases hc:w.cell? (a.add s) with
  | none=>simp[hc]at h
  | some c =>
   rw[hc]at h;simp only[Option.pure_def,Option.bind_eq_bind,Option.bind_some]at h;cases hr:(List.range' (s+1) n).mapM λi=>w.cell? (a.add i) with
   | none=>simp[hr]at h
   | some r =>
    rw[hr]at h;simp only[Option.bind_some,Option.some.injEq]at h;subst h;obtain⟨h1,h2⟩:=mapM_cells n (s+1) r hr;refine⟨by simp[h1],λj u hu=>?_⟩;cases j with
    | zero=>simp at hu;subst hu;exact hc
    | succ j =>
     have:=h2 j u (by simpa using hu);rwa [show s+1+j=s+(j+1) by omega]at this
theorem NS {w:World}{base:Nat}{a:Addr}{n:Nat}{cs:List Value}(h:w.cells? base a n=some cs):cs.length=n/\∀j u,cs[j]?=some u->w.cell? (a.add j)=some u:=by
 unfold World.cells? at h;split at h
 ·rw[List.range_eq_range']at h;obtain⟨h1,h2⟩:=mapM_cells n 0 cs h;exact⟨h1,λj u hu=>by simpa using h2 j u hu⟩
 cases h
end Go.Vc
namespace Go.Proofs.YtemjejfpadnljaaGreatDoor
section
open Go.Vc Go.Proofs Go.RowKit Cae
attribute [local irreducible] dN ae ak aY runK aw Sl Vc.Own vc aV cJ a7
def bX (x:I3):List Value:=[.int .i64 x.op,.int .i64 x.a,.int .i64 x.b]
def elV:List Value->Value
 | [v]=>v
 | cs=>.agg cs.toArray
theorem Lv {α:Type}(R:List Value->α->Prop)(g:FuncId)(cap:List Value)(f:α->Bool)(l:List α)(hl:l.length<1000000000)(X:Nat->Prop)(v:Value)(w:World)(hv:Sl X 1 R w v l)
  (hf:∀x∈l,∀cs,R cs x->cs.length=1->∀w',Below w.heap.size w w'->aw Tryz.prog g (elV cs::cap) w' λr bQ=>r=.bool (f x)/\Below w'.heap.size w' bQ) :
  aw Tryz.prog 146 [v,.func (.func g) #[] cap.toArray] w λr w'=>(∃n:Int,r=.int .i64 n/\(0<=n↔l.any f=true))/\Below w.heap.size w w':=by
 obtain⟨a,c,rfl,hc⟩:=hv.shape;refine aD Tryz.func146 rfl (by kernel_rfl) [4] rfl ?_;push_cast -dsimp(maxSteps:=9^7) [Tryz.ntmps146];refine aK [4,5,8,9,10,11,12,13,14,15,16,17,18] (λz wx=>∃(i:Nat),z 8=.int .i64 i/\i<=l.length/\(∀x∈l.take i,f x=false)/\Below w.heap.size w wx) (λz _=>l.length-(intOf (z 8)).toNat) ?_ ?_
 ·exact⟨0,rfl,Nat.zero_le _,by simp,Below.refl _ _⟩
 intro z wx hI;obtain⟨i,h8,hi,bI,hb⟩:=hI;push_cast -dsimp[h8];refine⟨λaq=>?_,λeo=>?_⟩
 ·obtain⟨x,hx,jJ,hd,ht⟩:=ag (l:=l) (i:=i) (by omega);obtain⟨b,o,cs,ha,hX,hk,aM,hR⟩:=(hv.below hb).AJ hx;subst ha;obtain⟨u,rfl⟩:∃u,cs=[u]:=(match cs,hk with|[u],_=>⟨u,rfl⟩);have c0:wx.cell? ⟨b,o+i,none⟩=some u:=(by simpa using aM 0 u rfl);push_cast -dsimp[c0]
  refine⟨⟨by omega,by omega⟩,?_⟩;refine aA (hf x jJ _ hR rfl wx hb) ?_;rintro _ w1 ⟨rfl,gS⟩;have oU:=hb.trans (gS.mono hb.size);push_cast -dsimp[Gk];refine⟨λAX=>?_,λep=>?_⟩
  ·exact⟨⟨i,rfl,⟨λ_=>List.any_eq_true.2 ⟨x,jJ,AX⟩,λ_=>by omega⟩⟩,oU⟩
  refine⟨⟨by omega,by omega⟩,⟨i+1,rfl,by omega,?_,oU⟩,by rw[h8];simp only[intOf];omega⟩;intro y hy;rw[ht,List.mem_append,List.mem_singleton]at hy;rcases hy with hy|rfl
  ·exact bI y hy
  exact ep
 refine⟨⟨-1,rfl,?_⟩,hb⟩;rw[List.take_of_length_le (by omega)]at bI;constructor
 ·intro h;omega
 intro h;obtain⟨x,hx,hn⟩:=List.any_eq_true.1 h;rw[bI x hx]at hn;cases hn
theorem D2 {α:Type}(R:List Value->α->Prop)(g:FuncId)(cap:List Value)(f:α->Bool)(l:List α)(hl:l.length<1000000000)(X:Nat->Prop)(v:Value)(w:World)(hv:Sl X 1 R w v l)
  (hf:∀x∈l,∀cs,R cs x->cs.length=1->∀w',Below w.heap.size w w'->aw Tryz.prog g (elV cs::cap) w' λr bQ=>r=.bool (f x)/\Below w'.heap.size w' bQ) :
  aw Tryz.prog 123 [v,.func (.func g) #[] cap.toArray] w λr w'=>r=.bool (l.any f)/\Below w.heap.size w w':=by
 refine aD Tryz.func123 rfl (by kernel_rfl) [4] rfl ?_;push_cast -dsimp(maxSteps:=9^7) [Tryz.ntmps123];refine aA (Lv R g cap f l hl X v w hv hf) ?_;rintro r w1 ⟨⟨n,rfl,hn⟩,hb⟩;push_cast -dsimp;refine⟨?_,hb⟩;congr 1;cases h:l.any f with
 | true=>rw[h]at hn;exact decide_eq_true (hn.2 rfl)
 | false=>rw[h]at hn;exact decide_eq_false (λh0=>by have:=hn.1 h0;cases this)
theorem OM {α:Type}(R:List Value->α->Prop)(g:FuncId)(cap:List Value)(f:α->Bool)(l:List α)(hl:l.length<1000000000)(X:Nat->Prop)(v:Value)(w:World)(hv:Sl X 3 R w v l)
  (hf:∀x∈l,∀cs,R cs x->cs.length=3->∀w',Below w.heap.size w w'->aw Tryz.prog g (elV cs::cap) w' λr bQ=>r=.bool (f x)/\Below w'.heap.size w' bQ) :
  aw Tryz.prog 143 [v,.func (.func g) #[] cap.toArray] w λr w'=>(∃n:Int,r=.int .i64 n/\(0<=n↔l.any f=true))/\Below w.heap.size w w':=by
 obtain⟨a,c,rfl,hc⟩:=hv.shape;refine aD Tryz.func143 rfl (by kernel_rfl) [4] rfl ?_;push_cast -dsimp(maxSteps:=9^7) [Tryz.ntmps143];refine aK [4,5,8,9,10,11,12,13,14,15,16,17,18] (λz wx=>∃(i:Nat),z 8=.int .i64 i/\i<=l.length/\(∀x∈l.take i,f x=false)/\Below w.heap.size w wx) (λz _=>l.length-(intOf (z 8)).toNat) ?_ ?_
 ·exact⟨0,rfl,Nat.zero_le _,by simp,Below.refl _ _⟩
 intro z wx hI;obtain⟨i,h8,hi,bI,hb⟩:=hI;push_cast -dsimp[h8];refine⟨λaq=>?_,λeo=>?_⟩
 ·obtain⟨x,hx,jJ,hd,ht⟩:=ag (l:=l) (i:=i) (by omega);obtain⟨b,o,cs,ha,hX,hk,aM,hR⟩:=(hv.below hb).AJ hx;subst ha;obtain⟨u0,u1,u2,rfl⟩:∃u0 u1 u2,cs=[u0,u1,u2]:=(match cs,hk with|[u0,u1,u2],_=>⟨u0,u1,u2,rfl⟩);have c0:aB wx ⟨b,o+i*3,none⟩ 0 3=some [u0,u1,u2]:=(ao [u0,u1,u2] 0 (λj u hu=>by simpa using aM j u hu));push_cast -dsimp[c0]
  refine⟨⟨by omega,by omega⟩,?_⟩;refine aA (hf x jJ _ hR rfl wx hb) ?_;rintro _ w1 ⟨rfl,gS⟩;have oU:=hb.trans (gS.mono hb.size);push_cast -dsimp[Gk];refine⟨λAX=>?_,λep=>?_⟩
  ·exact⟨⟨i,rfl,⟨λ_=>List.any_eq_true.2 ⟨x,jJ,AX⟩,λ_=>by omega⟩⟩,oU⟩
  refine⟨⟨by omega,by omega⟩,⟨i+1,rfl,by omega,?_,oU⟩,by rw[h8];simp only[intOf];omega⟩;intro y hy;rw[ht,List.mem_append,List.mem_singleton]at hy;rcases hy with hy|rfl
  ·exact bI y hy
  exact ep
 refine⟨⟨-1,rfl,?_⟩,hb⟩;rw[List.take_of_length_le (by omega)]at bI;constructor
 ·intro h;omega
 intro h;obtain⟨x,hx,hn⟩:=List.any_eq_true.1 h;rw[bI x hx]at hn;cases hn
theorem tg {α:Type}(R:List Value->α->Prop)(g:FuncId)(cap:List Value)(f:α->Bool)(l:List α)(hl:l.length<1000000000)(X:Nat->Prop)(v:Value)(w:World)(hv:Sl X 3 R w v l)
  (hf:∀x∈l,∀cs,R cs x->cs.length=3->∀w',Below w.heap.size w w'->aw Tryz.prog g (elV cs::cap) w' λr bQ=>r=.bool (f x)/\Below w'.heap.size w' bQ) :
  aw Tryz.prog 115 [v,.func (.func g) #[] cap.toArray] w λr w'=>r=.bool (l.any f)/\Below w.heap.size w w':=by
 refine aD Tryz.func115 rfl (by kernel_rfl) [4] rfl ?_;push_cast -dsimp(maxSteps:=9^7) [Tryz.ntmps115];refine aA (OM R g cap f l hl X v w hv hf) ?_;rintro r w1 ⟨⟨n,rfl,hn⟩,hb⟩;push_cast -dsimp;refine⟨?_,hb⟩;congr 1;cases h:l.any f with
 | true=>rw[h]at hn;exact decide_eq_true (hn.2 rfl)
 | false=>rw[h]at hn;exact decide_eq_false (λh0=>by have:=hn.1 h0;cases this)
def Mz (X:Nat->Prop)(w:World):List Value->List Rg->Prop:=λcs s=>∃u,cs=[u]/\Sl X 2 (En bF) w u s
def eH (X:Nat->Prop)(w:World)(v:Value)(l:List (List Rg)):Prop:=Sl X 1 (Mz X w) w v l
def cz (X:Nat->Prop)(w:World)(v:Value)(c:aE):Prop:=∃sv iv,v=.agg #[sv,iv]/\eH X w sv c.sets/\Sl X 3 (En bX) w iv c.ins
theorem Mz.mono {X X':Nat->Prop}{w w':World}{cs:List Value}{s:List Rg}(h:Mz X w cs s)(hs:∀b,¬X b->b<w.heap.size->w'.heap[b]?=w.heap[b]?)(hX:∀b,X' b->X b):Mz X' w' cs s:=by
 obtain⟨u,rfl,h⟩:=h;exact⟨u,rfl,h.mono hs (λ_ _ _ h=>h) hX⟩
theorem eH.mono {X X':Nat->Prop}{w w':World}{v:Value}{l:List (List Rg)}(h:eH X w v l)(hs:∀b,¬X b->b<w.heap.size->w'.heap[b]?=w.heap[b]?)(hX:∀b,X' b->X b):eH X' w' v l :=
 Sl.mono h hs (λ_ _ _ h=>h.mono hs hX) hX
theorem cz.mono {X X':Nat->Prop}{w w':World}{v:Value}{c:aE}(h:cz X w v c)(hs:∀b,¬X b->b<w.heap.size->w'.heap[b]?=w.heap[b]?)(hX:∀b,X' b->X b):cz X' w' v c:=by
 obtain⟨sv,iv,rfl,h1,h2⟩:=h;exact⟨sv,iv,rfl,h1.mono hs hX,h2.mono hs (λ_ _ _ h=>h) hX⟩
theorem eH.below {X:Nat->Prop}{w w':World}{v:Value}{l:List (List Rg)}(h:eH X w v l)(hb:Below w.heap.size w w'):eH X w' v l:=h.mono (λb _ aq=>hb.block b aq) (λ_ h=>h)
theorem cz.below {X:Nat->Prop}{w w':World}{v:Value}{c:aE}(h:cz X w v c)(hb:Below w.heap.size w w'):cz X w' v c:=h.mono (λb _ aq=>hb.block b aq) (λ_ h=>h)
theorem eH.kept {X Y:Nat->Prop}{w w':World}{v:Value}{l:List (List Rg)}(h:eH X w v l)(hb:Kept Y w w')(hY:∀i,Y i->X i):eH X w' v l:=h.mono (λb hx aq=>hb.block b aq λhh=>hx (hY b hh)) (λ_ h=>h)
theorem cz.kept {X Y:Nat->Prop}{w w':World}{v:Value}{c:aE}(h:cz X w v c)(hb:Kept Y w w')(hY:∀i,Y i->X i):cz X w' v c:=h.mono (λb hx aq=>hb.block b aq λhh=>hx (hY b hh)) (λ_ h=>h)
theorem yP (k n:Int)(b:Nat)(w:World)(hn:w.cell? ⟨b,0,none⟩=some (.int .i64 n)) :
  aw Tryz.prog 145 [.int .i64 k,.pointer (some ⟨b,0,none⟩)] w λr w'=>r=.bool (decide (0<=k/\k<n))/\w'=w:=by
 refine aD Tryz.func145 rfl (by kernel_rfl) [3] rfl ?_;push_cast -dsimp(maxSteps:=9^7) [Tryz.ntmps145];push_cast -dsimp[hn];constructor
 ·intro h;simp[h]
 intro h;simp[h]
theorem aEe (x:I3)(sets n:Int)(w:World) :
  aw Tryz.prog 122 [.agg #[.int .i64 x.op,.int .i64 x.a,.int .i64 x.b],.int .i64 sets,.int .i64 n] w λr w'=>r=.bool (bT x sets n)/\Below w.heap.size w w':=by
 refine aD Tryz.func122 rfl (by kernel_rfl) [6] rfl ?_;push_cast -dsimp(maxSteps:=9^7) [Tryz.ntmps122];refine aS ?_;intro w1 aU;push_cast -dsimp;refine aS ?_;intro w2 bP;have hb:Below w.heap.size w w2:=aU.below.trans (bP.below.mono (by have:=aU.size;omega));have g:∀{j u},[Value.int .i64 x.op,.int .i64 x.a,.int .i64 x.b][j]?=some u->w2.cell? ⟨w.heap.size,j,none⟩=some u:=λ{j u} h=>(bP.below.cell (by have:=aU.size;show w.heap.size<_;omega)).trans (aU.cell h)
 have c0:w2.cell? ⟨w.heap.size,0,none⟩=some (.int .i64 x.op):=g rfl;have c1:w2.cell? ⟨w.heap.size,1,none⟩=some (.int .i64 x.a):=g rfl;have c2:w2.cell? ⟨w.heap.size,2,none⟩=some (.int .i64 x.b):=g rfl;have cn:w2.cell? ⟨w1.heap.size,0,none⟩=some (.int .i64 n):=bP.cell0;push_cast -dsimp[c0,c1,c2];unfold bT;refine⟨λh1=>?_,λh1=>⟨λh2=>?_,λh2=>⟨λh3=>?_,λh3=>?_⟩⟩⟩
 ·rw[if_pos h1]
  repeat' first|apply And.intro|intro _
  all_goals first|exact hb|(congr 1;rw[decide_eq_decide];omega)|(congr 1;exact(decide_eq_false (by omega)).symm)|(congr 1;exact(decide_eq_true (by omega)).symm)|omega
 ·rw[if_neg h1,if_pos h2];refine aA (yP _ n _ w2 cn) ?_;rintro _ w3 ⟨rfl,hw⟩;subst hw;push_cast -dsimp[c1,c2];refine⟨λha=>?_,λha=>⟨by congr 1;exact(decide_eq_false (by omega)).symm,hb⟩⟩;refine aA (yP _ n _ w3 cn) ?_;rintro _ w4 ⟨rfl,hw⟩;subst hw;push_cast -dsimp;exact⟨by congr 1;rw[decide_eq_decide];omega,hb⟩
 ·rw[if_neg h1,if_neg h2,if_pos h3];refine aA (yP _ n _ w2 cn) ?_;rintro _ w3 ⟨rfl,hw⟩;subst hw;push_cast -dsimp[c1,c2]
  repeat' first|apply And.intro|intro _
  all_goals first|exact hb|(congr 1;rw[decide_eq_decide];omega)|(congr 1;exact(decide_eq_false (by omega)).symm)|(congr 1;exact(decide_eq_true (by omega)).symm)|omega
 rw[if_neg h1,if_neg h2,if_neg h3];refine⟨λh4=>?_,λh4=>⟨λh5=>?_,λh5=>?_⟩⟩
 ·rw[if_pos (.inl h4)]
  repeat' first|apply And.intro|intro _
  all_goals first|exact hb|(congr 1;rw[decide_eq_decide];omega)|(congr 1;exact(decide_eq_false (by omega)).symm)|(congr 1;exact(decide_eq_true (by omega)).symm)|omega
 ·rw[if_pos (.inr h5)]
  repeat' first|apply And.intro|intro _
  all_goals first|exact hb|(congr 1;rw[decide_eq_decide];omega)|(congr 1;exact(decide_eq_false (by omega)).symm)|(congr 1;exact(decide_eq_true (by omega)).symm)|omega
 rw[if_neg (by omega)];exact⟨rfl,hb⟩
theorem Og (x:I3)(bc bn:Nat)(a:Option Addr)(m cp:Nat)(n:Int)(w:World)(hc:w.cell? ⟨bc,0,none⟩=some (.slice a m cp))(hn:w.cell? ⟨bn,0,none⟩=some (.int .i64 n)) :
  aw Tryz.prog 121 [.agg #[.int .i64 x.op,.int .i64 x.a,.int .i64 x.b],.pointer (some ⟨bc,0,none⟩),.pointer (some ⟨bn,0,none⟩)] w λr w'=>r=.bool (!bT x m n)/\Below w.heap.size w w':=by
 refine aD Tryz.func121 rfl (by kernel_rfl) [4] rfl ?_;push_cast -dsimp(maxSteps:=9^7) [Tryz.ntmps121];refine aS ?_;intro w1 aU;have d0:aB w1 ⟨w.heap.size,0,none⟩ 0 3=some [.int .i64 x.op,.int .i64 x.a,.int .i64 x.b]:=aU.aL.aB;have dc:w1.cell? ⟨bc,0,none⟩=some (.slice a m cp):=(Kept.new aU (X:=λ_=>False)).cell hc id;have dn:w1.cell? ⟨bn,0,none⟩=some (.int .i64 n):=(Kept.new aU (X:=λ_=>False)).cell hn id;push_cast -dsimp[d0,dc,dn];refine aA (aEe x m n w1) ?_;rintro _ w2 ⟨rfl,dt⟩;push_cast -dsimp;exact aU.below.trans (dt.mono (by have:=aU.size;omega))
theorem Oh (s:List Rg)(hs:s.length<1000000000)(X:Nat->Prop)(v:Value)(w:World)(hv:Sl X 2 (En bF) w v s) :
  aw Tryz.prog 124 [v] w λr w'=>r=.bool (!aO (-2) s)/\Below w.heap.size w w':=by
 refine aD Tryz.func124 rfl (by kernel_rfl) [2] rfl ?_;push_cast -dsimp(maxSteps:=9^7) [Tryz.ntmps124];refine aA (um s hs X v w hv) ?_;rintro _ w1 ⟨rfl,hb⟩;push_cast -dsimp;exact hb
def mQ (c:aE):Prop:=∀s∈c.sets,s.length<1000000000
theorem G1 {α:Type}(l:List α)(f:α->Bool):(!(l.any λx=>!f x))=l.all f:=by
 induction l with
 | nil=>rfl
 | cons x l ih=>simp only[List.any_cons,List.all_cons,Bool.not_or,Bool.not_not,ih]
theorem ph (c:aE)(hl:mQ c)(hi:c.ins.length<1000000000)(hs:c.sets.length<1000000000)(X:Nat->Prop)(v:Value)(w:World)(hv:cz X w v c) :
  aw Tryz.prog 88 [v] w λr w'=>r=.bool (aW c)/\Below w.heap.size w w':=by
 obtain⟨sv,iv,rfl,uU,vA⟩:=hv;obtain⟨a1,c1,rfl,EX⟩:=uU.shape;obtain⟨a2,c2,rfl,tJ⟩:=vA.shape;refine aD Tryz.func88 rfl (by kernel_rfl) [2] rfl ?_;push_cast -dsimp(maxSteps:=9^7) [Tryz.ntmps88];refine aS ?_;intro w1 aU;have d0:w1.cell? ⟨w.heap.size,0,none⟩=some (.slice a1 c.sets.length c1):=aU.cell rfl;have d1:w1.cell? ⟨w.heap.size,1,none⟩=some (.slice a2 c.ins.length c2):=aU.cell rfl;push_cast -dsimp[d0,d1];refine ah (z:=[.int .i64 0]) (by kernel_rfl) ?_;intro w2 bP;push_cast -dsimp;refine aC bP.aL (by simp) rfl ?_;intro w3 dA;have gB:Below w.heap.size w w3:=aU.below.trans ((bP.below.mono (by have:=aU.size;omega)).trans (dA.kept.below (by have:=aU.size;have:=bP.size;omega) (λ_ h=>by have:=aU.size;omega)));have e0:w3.cell? ⟨w.heap.size,0,none⟩=some (.slice a1 c.sets.length c1):=dA.kept.cell ((Kept.new bP (X:=λ_=>False)).cell d0 id) (by have:=aU.size;show ¬w.heap.size=w1.heap.size;omega)
 have e1:w3.cell? ⟨w.heap.size,1,none⟩=some (.slice a2 c.ins.length c2):=dA.kept.cell ((Kept.new bP (X:=λ_=>False)).cell d1 id) (by have:=aU.size;show ¬w.heap.size=w1.heap.size;omega)
 have en:w3.cell? ⟨w1.heap.size,0,none⟩=some (.int .i64 c.ins.length):=dA.aL.cell rfl;push_cast -dsimp[en,e0,e1];have ep:¬(1<=c.ins.length/\c.ins.length<=2000/\c.sets.length<=2000)->Value.bool false=Value.bool (aW c):=λh=>by
  congr 1;unfold aW;rw[decide_eq_false h];rfl
 refine⟨λh1=>⟨λh2=>⟨λh3=>⟨⟨by omega,by omega⟩,?_⟩,λh3=>⟨ep (by omega),gB⟩⟩,λh2=>⟨ep (by omega),gB⟩⟩,λh1=>⟨ep (by omega),gB⟩⟩;obtain⟨x,hx,jJ,_,_⟩:=ag (l:=c.ins) (i:=c.ins.length-1) (by omega);obtain⟨b,o,rfl,hX,aM⟩:=(vA.below gB).get hx;have c0:w3.cell? ⟨b,o+(c.ins.length-1)*3,none⟩=some (.int .i64 x.op):=aM 0 _ rfl;have aJ9:((c.ins.length:Int)-1).toNat=c.ins.length-1:=by omega
 push_cast -dsimp[aJ9,c0];have Bu:(x.op=1\/x.op=4)->Value.bool false=Value.bool (aW c):=λh=>by
  congr 1;unfold aW;rw[hx];dsimp only;rw[decide_eq_false (p:=x.op≠1/\x.op≠4) (by omega)];simp
 refine⟨⟨by omega,by omega⟩,λvy=>?_,λvy=>⟨Bu (.inl vy),gB⟩⟩;push_cast -dsimp[aJ9,en,e1,c0];refine⟨⟨by omega,by omega⟩,⟨by omega,by omega⟩,λly=>⟨Bu (.inr ly),gB⟩,λly=>?_⟩;have cg:aW c=(c.ins.all (λx=>bT x c.sets.length c.ins.length) && c.sets.all (aO (-2))):=by
  unfold aW;rw[hx];dsimp only;rw[decide_eq_true (by omega),decide_eq_true ⟨vy,ly⟩,Bool.true_and,Bool.true_and]
 refine aA (tg (En bX) 121 [.pointer (some ⟨w.heap.size,0,none⟩),.pointer (some ⟨w1.heap.size,0,none⟩)] (λx=>!bT x c.sets.length c.ins.length) c.ins (by omega) X _ w3 (vA.below gB) ?_) ?_
 ·rintro y hy cs rfl _ w' Dw;exact Og y w.heap.size w1.heap.size a1 c.sets.length c1 c.ins.length w' ((Dw.cell (World.block_lt_of_cell? w3 _ e0)).trans e0) ((Dw.cell (World.block_lt_of_cell? w3 _ en)).trans en)
 rintro _ w4 ⟨rfl,kK⟩;have f0:=(kK.cell (World.block_lt_of_cell? w3 _ e0)).trans e0;have ER:=gB.trans (kK.mono gB.size);push_cast -dsimp[f0];rw[G1];cases hA:c.ins.all (λx=>bT x c.sets.length c.ins.length) with
 | false =>
  push_cast -dsimp;exact⟨by rw[cg,hA,Bool.false_and],ER⟩
 | true =>
  push_cast -dsimp[f0];refine aA (D2 (Mz X w4) 124 [] (λx=>!aO (-2) x) c.sets (by omega) X _ w4 (uU.below ER) ?_) ?_
  ·rintro s TW cs ⟨u,rfl,hu⟩ _ w' Dw;exact Oh s (hl s TW) X u w' (hu.below Dw)
  rintro _ w5 ⟨rfl,jq⟩;push_cast -dsimp;exact⟨by rw[G1,cg,hA,Bool.true_and],ER.trans (jq.mono ER.size)⟩
end
section
open Go.Vc Go.Proofs Go.RowKit Cae
attribute [local irreducible] dN ae ak aY runK aw Sl Vc.Own vc aV cJ a7
open Go.Deep Go.ChangeShapes Go.WideShapes Go.ChangeAt
section
variable {H:Type} {enc:TypeId×Value->H} {W:World} {base:Nat} {sp:Nat->Bool} {held:Bool}
theorem aJZ:Tryz.prog.cellsOf 3=1:=by kernel_rfl
end
end
section
open Go.Vc Go.Proofs Go.RowKit Cae
structure SV where
 a:Option Addr
 n:Nat
 c:Nat
def SV.v (s:SV):Value:=.slice s.a s.n s.c
def kJ (s:SV):List Value:=[s.v]
theorem xo:∀x,∀u∈kJ x,u.oneCell'=true:=by simp[kJ,SV.v,Value.oneCell']
theorem j3:∀x,∀u∈bX x,u.oneCell'=true:=by simp[bX,Value.oneCell']
structure PV where
 b:Bool
 s1:SV
 i1:SV
 s2:SV
 i2:SV
def gi (u:PV):List Value:=[.bool u.b,u.s1.v,u.i1.v,u.s2.v,u.i2.v]
theorem xm:∀x,∀u∈gi x,u.oneCell'=true:=by simp[gi,SV.v,Value.oneCell']
theorem xD {α β:Type}{base k:Nat}{e:TypeId}{enc:α->List Value}{R:List Value->β->Prop}{w:World}{v:Value}{us:List α}{l:List β}(h:Vc.Own base e k enc w v us)(hl:us.length=l.length)
  (hR:∀(i:Nat) (x:β),l[i]?=some x->∃u,us[i]?=some u/\R (enc u) x):Sl (·<base) k R w v l:=by
 have hs:=h.sl;unfold Sl at hs ⊢
 obtain⟨a,c,he,hc,hh⟩:=hs;refine⟨a,c,by rw[he,hl],by omega,λi x hx=>?_⟩;obtain⟨u,hu,hr⟩:=hR i x hx;obtain⟨b,o,cs,ha,hb,il,aM,rfl⟩:=hh i u hu;exact⟨b,o,_,ha,hb,il,aM,hr⟩
theorem uB {α β:Type}{Pr:Nat->α->β->Prop}{us:List α}{l:List β}{u:α}{x:β}(hl:us.length=l.length)(h:∀(i:Nat) (y:β),l[i]?=some y->∃v,us[i]?=some v/\Pr i v y)(hx:Pr l.length u x) :
  ∀(i:Nat) (y:β),(l++[x])[i]?=some y->∃v,(us++[u])[i]?=some v/\Pr i v y:=by
 intro i y hy;rcases Nat.lt_trichotomy i l.length with aq|heq|JQ
 ·rw[List.getElem?_append_left aq]at hy;obtain⟨v,h1,h2⟩:=h i y hy;exact⟨v,by rw[List.getElem?_append_left (by omega)];exact h1,h2⟩
 ·subst heq;rw[List.getElem?_append_right (Nat.le_refl _),Nat.sub_self]at hy;simp at hy;subst hy;exact⟨u,by rw[List.getElem?_append_right (by omega),hl,Nat.sub_self];rfl,hx⟩
 rw[List.getElem?_eq_none (by simp;omega)]at hy;cases hy
theorem eH.values {X:Nat->Prop}{w:World}{v:Value}{l:List (List Rg)}(h:eH X w v l):∃us:List SV,us.length=l.length/\Sl X 1 (En kJ) w v us/\∀(i:Nat) (u:SV) (s:List Rg),us[i]?=some u->l[i]?=some s->Sl X 2 (En bF) w u.v s:=by
 have h0:=h.shape;obtain⟨a,c,rfl,hc⟩:=h0;have cg:∀(i:Nat) (s:List Rg),l[i]?=some s->∃u:SV,Sl X 2 (En bF) w u.v s/\∃b o,a=some ⟨b,o,none⟩/\¬X b/\w.cell? ⟨b,o+i,none⟩=some u.v:=λi s hs=>by
  obtain⟨b,o,cs,e,hX,il,aM,u,rfl,hu⟩:=h.AJ hs;obtain⟨a',c',rfl,_⟩:=hu.shape;refine⟨⟨a',s.length,c'⟩,hu,b,o,e,hX,?_⟩
  have:=aM 0 _ rfl;rw[Nat.mul_one,Nat.add_zero]at this;rw[this];rfl
 have hex:∃us:List SV,us.length=l.length/\∀(i:Nat) (s:List Rg),l[i]?=some s->∃u,us[i]?=some u/\Sl X 2 (En bF) w u.v s/\∃b o,a=some ⟨b,o,none⟩/\¬X b/\w.cell? ⟨b,o+i,none⟩=some u.v:=by
  have key:∀n,n<=l.length->∃us:List SV,us.length=n/\∀(i:Nat) (s:List Rg),i<n->l[i]?=some s->∃u,us[i]?=some u/\Sl X 2 (En bF) w u.v s/\∃b o,a=some ⟨b,o,none⟩/\¬X b/\w.cell? ⟨b,o+i,none⟩=some u.v:=λn hn=>by
   induction n with
   | zero=>exact⟨[],rfl,λi s hi=>absurd hi (by omega)⟩
   | succ n ih =>
    obtain⟨us,hl,rB⟩:=ih (by omega);obtain⟨u,hu⟩:=cg n _ (List.getElem?_eq_getElem (by omega));refine⟨us++[u],by simp[hl],λi s hi hs=>?_⟩;by_cases e:i=n
    ·subst e;rw[List.getElem?_eq_getElem (by omega)]at hs;cases hs;exact⟨u,by rw[List.getElem?_append_right (by omega),hl,Nat.sub_self];rfl,hu⟩
    obtain⟨u',h1,h2⟩:=rB i s (by omega) hs;exact⟨u',by rw[List.getElem?_append_left (by omega)];exact h1,h2⟩
  obtain⟨us,h1,h2⟩:=key l.length (Nat.le_refl _);exact⟨us,h1,λi s hs=>h2 i s (List.getElem?_eq_some_iff.1 hs).1 hs⟩
 obtain⟨us,hl,rB⟩:=hex;refine⟨us,hl,⟨a,c,by rw[hl],by omega,λi u hu=>?_⟩,λi u s hu hs=>?_⟩
 ·have aq:=(List.getElem?_eq_some_iff.1 hu).1;obtain⟨u',h1,h2,b,o,e,hX,aM⟩:=rB i _ (List.getElem?_eq_getElem (by omega));rw[hu]at h1;cases h1;refine⟨b,o,[u.v],e,hX,rfl,λj x hx=>?_,rfl⟩;cases j with
  | zero=>simp at hx;subst hx;rw[Nat.mul_one,Nat.add_zero];exact aM
  | succ j=>simp at hx
 obtain⟨u',h1,h2,_⟩:=rB i s hs;rw[hu]at h1;cases h1;exact h2
theorem eH.sj {X:Nat->Prop}{w:World}{v:Value}{l:List (List Rg)}{us:List SV}(hl:us.length=l.length)(h:Sl X 1 (En kJ) w v us)(hu:∀(i:Nat) (u:SV) (s:List Rg),us[i]?=some u->l[i]?=some s->Sl X 2 (En bF) w u.v s):eH X w v l:=by
 obtain⟨a,c,rfl,hc⟩:=h.shape;refine⟨a,c,by rw[hl],by omega,λi s hs=>?_⟩;have aq:=(List.getElem?_eq_some_iff.1 hs).1;have hx:=List.getElem?_eq_getElem (l:=us) (i:=i) (by omega);obtain⟨b,o,cs,e,hX,il,aM,rfl⟩:=h.AJ hx;exact⟨b,o,_,e,hX,il,aM,_,rfl,hu i _ s hx hs⟩
end
end Go.Proofs.YtemjejfpadnljaaGreatDoor
namespace Go.Vc
section
open Go.RowKit
theorem Sl.fresh {α:Type}{X X':Nat->Prop}{k:Nat}{enc:α->List Value}{w:World}{v:Value}{l:List α}(hk:∀x,0<(enc x).length)(h:Sl X k (En enc) w v l)(hX:∀b,X' b->X b\/w.heap.size<=b):Sl X' k (En enc) w v l:=by
 obtain⟨a,c,rfl,hc,h⟩:=h;refine⟨a,c,rfl,hc,λi x hx=>?_⟩;obtain⟨b,o,cs,e,kL,hl,aM,rfl⟩:=h i x hx;refine⟨b,o,_,e,λhb=>?_,hl,aM,rfl⟩;have:b<w.heap.size:=World.block_lt_of_cell? w _ (aM 0 _ (List.getElem?_eq_getElem (hk x)));rcases hX b hb with h|h
 ·exact kL h
 omega
theorem Own.aMZ {α:Type}{base:Nat}{e:TypeId}{k:Nat}{enc:α->List Value}{w:World}{v:Value}{l:List α}(h:Vc.Own base e k enc w v l):Sl (λb=>v.ownBlock≠some b) k (En enc) w v l:=by
 have hs:=h.sl;obtain⟨a,c,rfl,hc,hs⟩:=hs;refine⟨a,c,rfl,hc,λi x hx=>?_⟩;obtain⟨b,o,cs,e,kL,hl,aM,il⟩:=hs i x hx;refine⟨b,o,cs,e,?_,hl,aM,il⟩;subst e;simp[Value.ownBlock]
end
section
theorem Sl.Qn {α:Type}{X Y Z:Nat->Prop}{k:Nat}{enc:α->List Value}{w w':World}{v:Value}{l:List α}(h:Sl X k (En enc) w v l)(hk:∀x,0<(enc x).length)(kc:Kept Y w w')(hY:∀i,Y i->X i)(hZ:∀b,Z b->X b\/w.heap.size<=b):Sl Z k (En enc) w' v l :=
 (((h.fresh hk (X':=λb=>X b\/Z b) (λb hb=>by
  rcases hb with hb|hb
  ·exact .inl hb
  exact hZ b hb)).kept kc (λi hi=>.inl (hY i hi))).weaken (λb hb=>.inr hb))
end
end Go.Vc
namespace Go.Proofs.YtemjejfpadnljaaGreatDoor
section
open Go.Vc Go.Proofs Go.RowKit Cae
attribute [local irreducible] dN ae ak aY runK aw Sl Vc.Own vc aV cJ a7
def aKd (b:Bool):List Value:=[.bool b]
theorem tj {is:List Bool}:∀(f f' k:Nat),is.length<=f+k->is.length<=f'+k->bZ is f k=bZ is f' k
 | 0,f',k,h,h'=>by rw[bZ,qM f' (by omega)]
 | f+1,0,k,h,h'=>by rw[qM _ (by omega),bZ]
 | f+1,f'+1,k,h,h'=>by
  rw[bZ,bZ];split
  ·rfl
  split
  ·exact tj f f' (k+1) (by omega) (by omega)
  rfl
theorem Cp (is:List Bool)(k:Nat)(h:k<is.length):rl is k=bZ is (is.length-(k+1)) (k+1):=tj _ _ _ (by omega) (by omega)
theorem Xh (c:aE)(hc:CR c)(k:Nat)(hk:k<c.ins.length)(X:Nat->Prop)(v:Value)(w:World)(hv:cz X w v c) :
  aw Tryz.prog 142 [v,.int .i64 k] w λr w'=>r=.int .i64 (gr c k)/\Below w.heap.size w w':=by
 have hm:=hc.many;obtain⟨sv,iv,rfl,uU,vA⟩:=hv;obtain⟨a,cp,rfl,TG⟩:=vA.shape;refine aD Tryz.func142 rfl (by kernel_rfl) [4] rfl ?_;push_cast -dsimp(maxSteps:=9^7) [Tryz.ntmps142];refine aS ?_;intro w1 aU;have aU:mN w w1 127 [sv,.slice a c.ins.length cp]:=aU;have c0:w1.cell? ⟨w.heap.size,1,none⟩=some (.slice a c.ins.length cp):=aU.cell rfl;push_cast -dsimp[c0];refine aK [1,8,9,10,11,12,13,14,15,16,17,18,19,20,21,22,23] (λz wx=>∃(i k':Nat),z 8=.int .i64 i/\z 1=.int .i64 k'/\i<=c.ins.length/\k'<c.ins.length/\uG c (c.ins.length-i) k'=gr c k/\wx=w1) (λz _=>c.ins.length-(intOf (z 8)).toNat) ?_ ?_
 ·exact⟨0,k,rfl,rfl,Nat.zero_le _,hk,rfl,rfl⟩
 intro z wx hI;obtain⟨i,k',h8,h1,hi,Dy,hf,rfl⟩:=hI;have hg:=ag (l:=c.ins) (i:=k') Dy;obtain⟨x,hx,jJ,_⟩:=hg;have hg:=(vA.below aU.below).get hx;obtain⟨b,o,rfl,hX,aM⟩:=hg;have e0:wx.cell? ⟨b,o+k'*3,none⟩=some (.int .i64 x.op):=by simpa using aM 0 _ rfl
 have e1:wx.cell? ⟨b,o+k'*3+1,none⟩=some (.int .i64 x.a):=by simpa using aM 1 _ rfl
 push_cast -dsimp[h8,h1,c0,e0,e1];refine⟨λaq=>⟨⟨by omega,by omega⟩,λh3=>?_,λh3=>?_⟩,λeo=>?_⟩
 ·have e:uG c (c.ins.length-i) k'=k':=by
   rw[show c.ins.length-i=(c.ins.length-i-1)+1 by omega,uG,hx]
   dsimp only;rw[if_neg h3]
  rw[<-hf,e];exact⟨rfl,aU.below⟩
 ·have h3:x.op=3:=Classical.byContradiction h3;have hj:=jK hc hx h3;have e:uG c (c.ins.length-i) k'=uG c (c.ins.length-(i+1)) x.a.toNat:=by
   rw[show c.ins.length-i=(c.ins.length-(i+1))+1 by omega,uG,hx]
   dsimp only;rw[if_pos h3]
  refine⟨⟨by omega,by omega⟩,⟨by omega,by omega⟩,⟨i+1,x.a.toNat,rfl,?_,by omega,hj.2.1,by rw[<-e];exact hf⟩,?_⟩
  ·rw[Int.toNat_of_nonneg hj.1]
  simp only[intOf];omega
 have e:c.ins.length-i=0:=by omega
 rw[e,uG]at hf;rw[<-hf];exact⟨rfl,aU.below⟩
theorem Z6 (is:List Bool)(hn:is.length<1000000)(k:Nat)(X:Nat->Prop)(v:Value)(w:World)(hv:Sl X 1 (En aKd) w v is)(hk:k<is.length) :
  aw Tryz.prog 141 [v,.int .i64 k] w λr w'=>r=.int .i64 (rl is k)/\w'=w:=by
 obtain⟨a,cp,rfl,TG⟩:=hv.shape;refine aD Tryz.func141 rfl (by kernel_rfl) [4] rfl ?_;push_cast -dsimp(maxSteps:=9^7) [Tryz.ntmps141];refine⟨⟨by omega,by omega⟩,?_⟩;refine aK [4,5,8,9,10,11,12,13,14,15,16,17,18] (λz wx=>∃(i:Nat),z 5=.int .i64 i/\k<i/\i<=is.length/\rl is k=bZ is (is.length-i) i/\wx=w) (λz _=>is.length-(intOf (z 5)).toNat) ?_ ?_
 ·refine⟨k+1,rfl,by omega,by omega,?_,rfl⟩;exact Cp is k (by omega)
 intro z wx hI;obtain⟨i,h5,Ke,hi,hN,rfl⟩:=hI;rcases Nat.lt_or_ge i is.length with aq|eo
 ·have hg:=ag (l:=is) (i:=i) aq;obtain⟨x,hx,jJ,_⟩:=hg;have hg:=hv.get hx;obtain⟨b,o,rfl,hX,aM⟩:=hg;have e0:wx.cell? ⟨b,o+i,none⟩=some (.bool x):=by simpa using aM 0 _ rfl
  have es:is.length-i=(is.length-(i+1))+1:=by omega
  cases x with
  | true =>
   push_cast -dsimp[h5,e0];rw[es,I0 hx]at hN;rw[hN];exact⟨λ_=>⟨⟨by omega,by omega⟩,rfl⟩,λh=>absurd h (by omega)⟩
  | false =>
   push_cast -dsimp[h5,e0];rw[es,Es (by rw[hx];simp) aq]at hN;refine⟨λ_=>⟨⟨by omega,by omega⟩,⟨by omega,by omega⟩,⟨i+1,rfl,by omega,by omega,hN⟩,by simp only[intOf];omega⟩,λh=>absurd h (by omega)⟩
 push_cast -dsimp[h5];refine⟨λh=>absurd h (by omega),λ_=>?_⟩;rw[qM _ eo]at hN;rw[hN]
theorem BZ (l:List I3)(hl:l.length<1000000)(X:Nat->Prop)(v:Value)(w:World)(hv:Sl X 3 (En bX) w v l)(cf:l≠[]) :
  aw Tryz.prog 117 [v] w λr w'=>Vc.Own w.heap.size 164 3 bX w' r l/\Below w.heap.size w w':=by
 obtain⟨a,c,rfl,hc⟩:=hv.shape;refine aD Tryz.func117 rfl (by kernel_rfl) [2] rfl ?_;push_cast -dsimp(maxSteps:=9^7) [Tryz.ntmps117];cases a with
 | none =>
  obtain⟨x,r,rfl⟩:=List.exists_cons_of_ne_nil cf;have hg:=hv.get (i:=0) (x:=x) rfl;obtain⟨b,o,h,_⟩:=hg;cases h
 | some ad =>
  push_cast -dsimp[aKk];refine cF fL rfl rfl (by omega) ?_;intro w1 aU;have vy:=aU.own (base:=w.heap.size) (k:=3) (n:=0) (enc:=bX) (l:=[]) rfl rfl (λ_=>rfl) (Nat.le_refl _) (by omega);have qw:=aU.size;push_cast -dsimp;refine mi (base:=w.heap.size) (enc:=bX) (ys:=l) fL vy (hv.below aU.below) (λn c h=>by cases h) j3 (by simp only[List.length_nil];omega) (by omega) ?_;intro v' w2 ln EZ dt;rw[List.nil_append]at ln;push_cast -dsimp;exact⟨ln,aU.below.trans dt⟩
end
section
open Go.Vc Go.Proofs Go.RowKit Cae
attribute [local irreducible] dN ae ak aY runK aw Sl Vc.Own vc aV cJ a7
attribute [local irreducible] gr bV
theorem ox {X:Nat->Prop}{base:Nat}{w:World}{sv iv:Value}{c:aE}{sets:List (List Rg)}(hX:∀b,X b->b<base)(uU:eH X w sv sets)(ho:Vc.Own base 164 3 bX w iv c.ins)(hs:c.sets=sets):cz X w (.agg #[sv,iv]) c :=
 ⟨sv,iv,rfl,by rw[hs];exact uU,ho.sl.weaken hX⟩
theorem PG (c:aE)(hc:CR c)(X:Nat->Prop)(v:Value)(w:World)(hX:∀b,X b->b<w.heap.size)(hv:cz X w v c) :
  aw Tryz.prog 114 [v] w λr w'=>cz X w' r (pW c)/\Below w.heap.size w w':=by
 have hm:=hc.many;have uP:=hc.one;obtain⟨sv,iv,rfl,aMo,aQf⟩:=hv;have uU:eH (λ_=>False) w sv c.sets:=aMo.mono (λ_ _ _=>rfl) (λ_ h=>h.elim);have vA:=aQf.weaken (X':=λ_=>False) (λ_ h=>h.elim);obtain⟨a,cp,rfl,TG⟩:=vA.shape;have IA:=uU.shape;obtain⟨sa,sc,aQ9,yI⟩:=IA;refine iI Tryz.func114 rfl (by kernel_rfl) [.cell 2 127] rfl ?_;push_cast -dsimp(maxSteps:=9^7) [Tryz.ntmps114];refine aS ?_;intro w1 aU;have aU:mN w w1 127 [sv,.slice a c.ins.length cp]:=aU;have qw:=aU.size;push_cast -dsimp;refine ah (z:=[.slice none 0 0,.slice none 0 0]) (by kernel_rfl) ?_;intro w2 bP;have EE:=bP.size;have dt:Below w.heap.size w w2:=aU.below.trans (bP.below.mono (by omega));have gy:aN w2 w.heap.size 127 [sv,.slice a c.ins.length cp]:=aU.aL.below bP.below (by omega);have c0:w2.cell? ⟨w.heap.size,1,none⟩=some (.slice a c.ins.length cp):=gy.cell rfl;push_cast -dsimp[c0];refine aA (BZ c.ins (by omega) (λ_=>False) _ w2 (vA.below dt) (λh=>by rw[h]at uP;simp at uP)) ?_;rintro v3 w3 ⟨nL,gB⟩;have PA:=gB.size;have Nd:=gy.below gB (by omega);have hR3:aN w3 w1.heap.size 127 [.slice none 0 0,.slice none 0 0]:=bP.aL.below gB (by omega);have lZ:=nL.slice;obtain⟨ga,gc,rfl⟩:=lZ;have lZ:=nL.cut;rcases lZ with ⟨_,h0,_⟩|⟨g,rfl,_,hle,_⟩
 ·omega
 have Ad:=nL.block g rfl;push_cast -dsimp;refine aC Nd (by simp) rfl ?_;intro w4 aj;have ER:aN w4 w.heap.size 127 [sv,.slice (some ⟨g,0,none⟩) c.ins.length gc]:=aj.aL;have Mn:=aj.size;have ly:=nL.aH aj.kept (λg' x6 h=>by have:g=g':=(by simpa[Value.ownBlock] using x6);omega);have hR4:=hR3.kept aj.kept (by omega);have kK:Below w.heap.size w w4:=dt.trans ((gB.mono (by omega)).trans (aj.kept.below (by omega) (λ_ h=>by omega)));have c4:w4.cell? ⟨w.heap.size,1,none⟩=some (.slice (some ⟨g,0,none⟩) c.ins.length gc):=ER.cell rfl;push_cast -dsimp[c4];refine aK [3,4,5,6,14,15,16,17,18,19,20,21,22,23,24,25,26,27,28,29,30,31,32,33,34,35,36,37,38,39,40,41,42,43,44,45,46,47,48,49,50,51,52,53,54,55,56,57,58,59,60,61,62,63] (λz wx=>∃(i:Nat),z 14=.int .i64 i/\i<=c.ins.length/\Vc.Own w2.heap.size 164 3 bX wx (.slice (some ⟨g,0,none⟩) c.ins.length gc) (ar c i).ins/\aN wx w.heap.size 127 [sv,.slice (some ⟨g,0,none⟩) c.ins.length gc] /\
   aN wx w1.heap.size 127 [.slice none 0 0,.slice none 0 0]/\Below w.heap.size w wx/\w4.heap.size<=wx.heap.size) (λz _=>c.ins.length-(intOf (z 14)).toNat) ?_ ?_
 ·exact⟨0,rfl,Nat.zero_le _,ly,ER,hR4,kK,Nat.le_refl _⟩
 intro z wx hI;obtain⟨i,h14,hi,eU,lr,vh,bS,A5⟩:=hI;have vC:=oe hc i;obtain⟨hCi,CD,hlen,_,Yf⟩:=vC;push_cast -dsimp[h14];refine⟨λaq=>?_,λeo=>?_⟩
 ·have hg:=ag (l:=(ar c i).ins) (i:=i) (by omega);obtain⟨x,hx,jJ,_⟩:=hg;have hg:=eU.sl.get hx;obtain⟨b,o,e,_,aM⟩:=hg;cases e;have ce:aB wx ⟨g,0+i*3,none⟩ 0 3=some (bX x):=ao (bX x) 0 (λj u hu=>by simpa using aM j u hu);rw[Nat.zero_add]at ce;unfold bX at ce;push_cast -dsimp[ce];refine⟨⟨by omega,by omega⟩,?_⟩;refine ah (z:=[.int .i64 0,.int .i64 0,.int .i64 0]) (by kernel_rfl) ?_;intro w5 cG;have PC:=cG.size;push_cast -dsimp;refine aI (n:=3) (by kernel_rfl) cG.aL rfl (by simp) (by simp[Value.oneCell']) ?_;intro w6 bW;have MN:=bW.size;have Du:aN w6 wx.heap.size 164 [.int .i64 x.op,.int .i64 x.a,.int .i64 x.b]:=bW.aL;have k6:Kept (λj=>j=wx.heap.size) wx w6:=(Kept.new cG).trans bW.kept (λ_ _ h=>h);have rA:=eU.aH k6 (λg' x6 h=>by have:=eU.block g' x6;omega);have sY:=lr.kept k6 (by omega);have hR6:=vh.kept k6 (by omega);have lk:Below w.heap.size w w6:=bS.trans (k6.below (by omega) (λ_ h=>by omega));have c6:w6.cell? ⟨wx.heap.size,0,none⟩=some (.int .i64 x.op):=Du.cell rfl;push_cast -dsimp[c6];have V6:∀w',Kept (λ_=>False) w6 w'->cz (λ_=>False) w' (.agg #[sv,.slice (some ⟨g,0,none⟩) c.ins.length gc]) (ar c i):=λw' Dy =>
   ox (sets:=c.sets) (base:=w2.heap.size) (λ_ h=>h.elim) (eH.below (w:=w6) (eH.below uU lk) (Dy.below (Nat.le_refl _) (λ_ h=>h.elim))) (rA.aH Dy (λ_ _ h=>h)) CD
  have j7:(ar c (i+1)).ins=(ar c i).ins.set i (bV (ar c i) x):=by
   rw[ar];unfold fk;rw[hx]
  refine⟨λh3=>?_,λh3=>?_⟩
  ·have hj:=jK hCi hx h3;have Hg:x.a=((x.a.toNat:Nat):Int):=by rw[Int.toNat_of_nonneg hj.1]
   have ey:bV (ar c i) x=⟨x.op,gr (ar c i) x.a.toNat,x.b⟩:=by unfold bV;rw[if_pos h3]
   refine eC (λw'=>aN w' w.heap.size 127 [sv,.slice (some ⟨g,0,none⟩) c.ins.length gc]/\aN w' wx.heap.size 164 [.int .i64 x.op,.int .i64 x.a,.int .i64 x.b]) mixed (by kernel_rfl) (List.cons_ne_nil _ _) ⟨sY.drew,Du.drew⟩ ?_;have q1:w6.drew.cell? ⟨w.heap.size,1,none⟩=some (.slice (some ⟨g,0,none⟩) c.ins.length gc):=sY.drew.cell rfl;have q2:w6.drew.cell? ⟨wx.heap.size,1,none⟩=some (.int .i64 x.a):=Du.drew.cell rfl;have q3:=sY.drew.aB;simp only[List.length_cons,List.length_nil,Nat.zero_add,Nat.reduceAdd]at q3;push_cast -dsimp[q1,q2,q3];refine⟨λbQ hC=>gw hC.1 rfl,λbQ hC=>I6 hC.1 rfl rfl,λbQ hC=>gw hC.2 rfl,?_⟩;have yo:Kept (λ_=>False) w6 w6.drew:=(Kept.refl _ _).drew;rw[Hg];refine aA (Xh (ar c i) hCi x.a.toNat (by omega) (λ_=>False) _ _ (V6 _ yo)) ?_;rintro _ w7 ⟨rfl,lV⟩;have ll:Kept (λ_=>False) w6 w7:=yo.trans (Kept.aQ lV (λj h1 h2=>absurd h2 (by omega))) (λ_ _ h=>h);have MO:=ll.size;have nM:=rA.aH ll (λ_ _ h=>h);have KS:=sY.kept ll id;have AQ:=Du.kept ll id;have KV:=hR6.kept ll id;have jU:Below w.heap.size w w7:=lk.trans (ll.below (by omega) (λ_ h=>h.elim));rw[<-Hg];refine⟨⟨KS,AQ⟩,?_⟩;push_cast -dsimp;refine⟨⟨by omega,by omega⟩,?_⟩;refine gR (i:=i) (f:=1) (y:=bV (ar c i) x) nM rfl hx (by omega) (by rw[ey];rfl) rfl ?_;intro w8 sd Vg sz8;rw[<-j7]at sd;have hB8:=KS.kept Vg (by omega);have hR8:=KV.kept Vg (by omega);have j5:Below w.heap.size w w8:=jU.trans (Vg.below (by omega) (λ_ h=>by omega));push_cast -dsimp
   exact⟨⟨by omega,by omega⟩,⟨i+1,rfl,by omega,sd,hB8,hR8,j5,by omega⟩,by rw[h14];simp only[intOf];omega⟩
  refine⟨λh2=>?_,λh2=>?_⟩
  ·have hj:=nO hCi hx h2;have Hg:x.a=((x.a.toNat:Nat):Int):=by rw[Int.toNat_of_nonneg hj.1]
   have Sy:x.b=((x.b.toNat:Nat):Int):=by rw[Int.toNat_of_nonneg hj.2.2.1]
   refine bu (λw'=>aN w' w.heap.size 127 [sv,.slice (some ⟨g,0,none⟩) c.ins.length gc]/\aN w' wx.heap.size 164 [.int .i64 x.op,.int .i64 x.a,.int .i64 x.b]) mixed (by kernel_rfl) ⟨sY.drew,Du.drew⟩ ?_;have q1:w6.drew.cell? ⟨wx.heap.size,2,none⟩=some (.int .i64 x.b):=Du.drew.cell rfl;have q2:w6.drew.cell? ⟨wx.heap.size,1,none⟩=some (.int .i64 x.a):=Du.drew.cell rfl;have q3:=sY.drew.aB;simp only[List.length_cons,List.length_nil,Nat.zero_add,Nat.reduceAdd]at q3;push_cast -dsimp[q1,q2,q3];refine⟨λbQ hC=>I6 hC.1 rfl rfl,λbQ hC=>gw hC.2 rfl,?_⟩;have yo:Kept (λ_=>False) w6 w6.drew:=(Kept.refl _ _).drew;rw[Hg];refine aA (Xh (ar c i) hCi x.a.toNat (by omega) (λ_=>False) _ _ (V6 _ yo)) ?_;rintro _ w7 ⟨rfl,lV⟩;have ll:Kept (λ_=>False) w6 w7:=yo.trans (Kept.aQ lV (λj h1 h2=>absurd h2 (by omega))) (λ_ _ h=>h);have MO:=ll.size;have nM:=rA.aH ll (λ_ _ h=>h);have KS:=sY.kept ll id;have AQ:=Du.kept ll id;have KV:=hR6.kept ll id;have jU:Below w.heap.size w w7:=lk.trans (ll.below (by omega) (λ_ h=>h.elim));rw[<-Hg];refine⟨⟨KS,AQ⟩,?_⟩;have q4:=KS.aB;have q5:w7.cell? ⟨wx.heap.size,2,none⟩=some (.int .i64 x.b):=AQ.cell rfl;simp only[List.length_cons,List.length_nil,Nat.zero_add,Nat.reduceAdd]at q4;push_cast -dsimp[q4,q5];refine⟨λbQ hC=>I6 hC.1 rfl rfl,λbQ hC=>gw hC.2 rfl,?_⟩;rw[Sy];refine aA (Xh (ar c i) hCi x.b.toNat (by omega) (λ_=>False) _ _ (V6 _ ll)) ?_;rintro _ w8 ⟨rfl,j5⟩;have Vg:Kept (λ_=>False) w6 w8:=ll.trans (Kept.aQ j5 (λj h1 h2=>absurd h2 (by omega))) (λ_ _ h=>h);have sz8:=Vg.size
   have sd:=rA.aH Vg (λ_ _ h=>h);have hB8:=sY.kept Vg id;have hT8:=Du.kept Vg id;have hR8:=hR6.kept Vg id;have Hm:Below w.heap.size w w8:=lk.trans (Vg.below (by omega) (λ_ h=>h.elim));rw[<-Sy];refine⟨⟨hB8,hT8⟩,?_⟩;push_cast -dsimp;refine bu (λw'=>aN w' w.heap.size 127 [sv,.slice (some ⟨g,0,none⟩) c.ins.length gc]) mixed (by kernel_rfl) hB8.drew ?_;have q6:w8.drew.cell? ⟨w.heap.size,1,none⟩=some (.slice (some ⟨g,0,none⟩) c.ins.length gc):=hB8.drew.cell rfl;push_cast -dsimp[q6];refine⟨λbQ hC=>gw hC rfl,λbQ hC=>gw hC rfl,⟨by omega,by omega⟩,?_⟩;have aQI:=sd.aH (Kept.refl (λ_=>False) _).drew (λ_ _ h=>h);refine gR (i:=i) (f:=1) (y:=⟨x.op,gr (ar c i) x.a.toNat,x.b⟩) aQI rfl hx (by omega) rfl rfl ?_;intro w9 AU Y1 sz9;have Dq:=hB8.drew.kept Y1 (by omega);have hR9:=hR8.drew.kept Y1 (by omega);have pd:Below w.heap.size w w9:=Hm.drew.trans (Y1.below (by show w.heap.size<=w8.heap.size;omega) (λ_ h=>by omega))
   have aXr:w9.heap.size=w8.heap.size:=sz9;refine⟨Dq,?_⟩;push_cast -dsimp;refine⟨⟨by omega,by omega⟩,?_⟩;have hx9:((ar c i).ins.set i ⟨x.op,gr (ar c i) x.a.toNat,x.b⟩)[i]?=some ⟨x.op,gr (ar c i) x.a.toNat,x.b⟩:=by rw[List.getElem?_set,if_pos rfl,if_pos (by omega)]
   refine gR (i:=i) (f:=2) (y:=⟨x.op,gr (ar c i) x.a.toNat,gr (ar c i) x.b.toNat⟩) AU rfl hx9 (by omega) rfl rfl ?_;intro Vq aC1 aHp aXq;rw[List.set_set]at aC1;have aCj:=Dq.kept aHp (by omega);have aKW:=hR9.kept aHp (by omega);have Sv:Below w.heap.size w Vq:=pd.trans (aHp.below (by omega) (λ_ h=>by omega));have q7:Vq.cell? ⟨w.heap.size,1,none⟩=some (.slice (some ⟨g,0,none⟩) c.ins.length gc):=aCj.cell rfl;refine⟨aCj,?_⟩;push_cast -dsimp[q7];refine⟨λhe=>?_,λhe=>?_⟩
   ·have YV:gr (ar c i) x.a.toNat=gr (ar c i) x.b.toNat:=by omega
    have ey:bV (ar c i) x=⟨3,gr (ar c i) x.a.toNat,0⟩:=by unfold bV;rw[if_neg h3,if_pos h2,if_pos YV]
    refine⟨⟨by omega,by omega⟩,?_⟩;refine Ux (k:=3) (i:=i) (y:=bV (ar c i) x) (by kernel_rfl) aC1 rfl (by rw[List.length_set];omega) (by rw[ey];rfl) (by simp[Value.oneCell']) ?_;intro VO Kl aHq aM5;rw[List.set_set,<-j7]at Kl;have aOA:=aCj.kept aHq (by omega);have aO6:=aKW.kept aHq (by omega);have aPt:Below w.heap.size w VO:=Sv.trans (aHq.below (by omega) (λ_ h=>by omega));push_cast -dsimp;exact⟨⟨by omega,by omega⟩,⟨i+1,rfl,by omega,Kl,aOA,aO6,aPt,by omega⟩,by rw[h14];simp only[intOf];omega⟩
   have YV:¬gr (ar c i) x.a.toNat=gr (ar c i) x.b.toNat:=by omega
   have ey:bV (ar c i) x=⟨x.op,gr (ar c i) x.a.toNat,gr (ar c i) x.b.toNat⟩:=by unfold bV;rw[if_neg h3,if_pos h2,if_neg YV]
   rw[<-ey,<-j7]at aC1;exact⟨⟨by omega,by omega⟩,⟨i+1,rfl,by omega,aC1,aCj,aKW,Sv,by omega⟩,by rw[h14];simp only[intOf];omega⟩
  have ey:bV (ar c i) x=x:=by unfold bV;rw[if_neg h3,if_neg h2]
  have e:(ar c (i+1)).ins=(ar c i).ins:=by
   rw[j7,ey];apply List.ext_getElem?;intro j;rw[List.getElem?_set];split
   ·rename_i e;subst e;rw[if_pos (by omega),hx]
   rfl
  rw[<-e]at rA;exact⟨⟨by omega,by omega⟩,⟨i+1,rfl,by omega,rA,sY,hR6,lk,by omega⟩,by rw[h14];simp only[intOf];omega⟩
 have oh:i=c.ins.length:=by omega
 subst oh;have q3:=lr.aB;simp only[List.length_cons,List.length_nil,Nat.zero_add,Nat.reduceAdd]at q3;push_cast -dsimp[q3];refine aI (n:=2) (by kernel_rfl) vh rfl (by simp) (by simp[aQ9,Value.oneCell']) ?_;intro w5 cG;have PC:=cG.size;have q5:aB w5 ⟨w1.heap.size,0,none⟩ 0 2=some [sv,.slice (some ⟨g,0,none⟩) c.ins.length gc]:=cG.aL.aB;push_cast -dsimp[q5];have aLq:Below w.heap.size w w5:=bS.trans (cG.kept.below (by omega) (λ_ h=>by omega));exact⟨ox (sets:=c.sets) (λb h=>by have:=hX b h;omega) (eH.below aMo aLq) (eU.aH cG.kept (λg' x6 h=>by have:=eU.block g' x6;omega)) CD,aLq⟩
end
section
open Go.Vc Go.Proofs Go.RowKit Cae
attribute [local irreducible] dN ae ak aY runK aw Sl Vc.Own vc aV cJ a7
def iB (n:Nat)(q:List Nat):List Value:=(List.range n).map λi=>.bool (decide (i∈q))
theorem pU {n:Nat}{q:List Nat}{k:Nat}(hk:k<n):(iB n q)[k]?=some (.bool (decide (k∈q))):=by
 simp[iB,hk]
theorem Uk {n:Nat}{q:List Nat}{k:Nat}(hk:k<n):(iB n q).set k (.bool true)=iB n (q++[k]):=by
 apply List.ext_getElem?;intro i;rw[List.getElem?_set];by_cases hi:i<n
 ·rw[pU hi,pU hi];split
  ·rename_i e;subst e;rw[if_pos (by simpa[iB] using hk)];simp
  rename_i e;congr 2;rw[decide_eq_decide];simp only[List.mem_append,List.mem_singleton];constructor
  ·intro h;exact .inl h
  rintro(h|h)
  ·exact h
  exact absurd h.symm e
 have h1:(iB n q)[i]?=none:=List.getElem?_eq_none (by simp[iB];omega);have h2:(iB n (q++[k]))[i]?=none:=List.getElem?_eq_none (by simp[iB];omega);rw[h1,h2,if_neg (by omega)]
def Th (w:World)(p n:Nat)(q:List Nat)(F:Nat->Prop):Prop :=
 ∃lv sb,aN w p 184 [lv,.slice (some ⟨sb,0,none⟩) n n]/\Vc.Own 0 3 1 aX w lv q/\aN w sb 4 (iB n q)/\p≠sb/\(∀g,lv.ownBlock=some g->g≠p/\g≠sb/\F g)/\F p/\F sb/\bz n q
theorem Th.kept {w w':World}{p n:Nat}{q:List Nat}{F X:Nat->Prop}(h:Th w p n q F)(hk:Kept X w w')(hX:∀k,F k->¬X k):Th w' p n q F:=by
 obtain⟨lv,sb,h1,h2,h3,h4,h5,h6,h7,h8⟩:=h;exact⟨lv,sb,h1.kept hk (hX p h6),h2.aH hk (λg hg=>hX g (h5 g hg).2.2),h3.kept hk (hX sb h7),h4,h5,h6,h7,h8⟩
theorem aF4 (p n:Nat)(q:List Nat)(F:Nat->Prop)(k:Nat)(hk:k<n)(hn:n<1000000)(w:World)(h:Th w p n q F) :
  aw Tryz.prog 89 [.pointer (some ⟨p,0,none⟩),.int .i64 k] w λ_ w'=>Kept F w w'/\Th w' p n (ji q k) (λj=>F j\/w.heap.size<=j):=by
 obtain⟨lv,sb,hp,hl,hs,cf,hg,hFp,hFs,hP⟩:=h;have c0:w.cell? ⟨p,0,none⟩=some lv:=hp.cell rfl;have c1:w.cell? ⟨p,1,none⟩=some (.slice (some ⟨sb,0,none⟩) n n):=hp.cell rfl;have cs:w.cell? ⟨sb,k,none⟩=some (.bool (decide (k∈q))):=hs.cell (pU hk);refine aD Tryz.func89 rfl (by kernel_rfl) [] rfl ?_;push_cast -dsimp(maxSteps:=9^7) [Tryz.ntmps89];push_cast -dsimp[c1,cs];refine⟨⟨by omega,by omega⟩,?_⟩;have hql:=hP.len;refine⟨λqz=>⟨⟨by omega,by omega⟩,?_⟩,λqz=>?_⟩
 ·have qz:k ∉ q:=qz;refine aC hs (by simp[iB];exact hk) rfl ?_;intro w1 aU;rw[Uk hk]at aU;have JT:=hp.kept aU.kept (by exact cf);have d0:w1.cell? ⟨p,0,none⟩=some lv:=JT.cell rfl;have yq:=hl.aH aU.kept (λg x6=>(hg g x6).2.1);push_cast -dsimp[d0];refine cF ay rfl rfl (by omega) ?_;intro w2 bP;push_cast -dsimp;have hp2:=JT.kept (Kept.new bP (X:=λ_=>False)) id;have iC:=aU.aL.kept (Kept.new bP (X:=λ_=>False)) id;have aWU:=bP.size;have aRa:=aU.size;refine aP (base:=0) [k] (enc:=aX) ay (yq.new bP) rfl (λj u hu=>by simpa using bP.cell hu) (by simp[aX,Value.oneCell']) (by simp only[List.length_cons,List.length_nil];omega) (Nat.zero_le _) ?_;intro v' w3 nL QQ hn3;have hgk:Kept (λj=>lv.ownBlock=some j) w2 w3:=Kept.grown QQ (λ_ h=>h);have hp3:=hp2.kept hgk (λh=>(hg _ h).1 rfl);have mV:=iC.kept hgk (λh=>(hg _ h).2.1 rfl);obtain⟨a3,c3,hv3⟩:=nL.slice;subst hv3;push_cast -dsimp;refine aC hp3 (by simp) rfl ?_;intro w4 aj;push_cast -dsimp;have k1:Kept F w w1:=aU.kept.weaken (λi _ h=>by subst h;exact hFs);have k2:Kept F w w2:=k1.trans (Kept.new bP (X:=λ_=>False)) (λ_ _ h=>h.elim);have k3:Kept F w w3:=k2.trans hgk (λi _ h=>(hg i h).2.2);have k4:Kept F w w4:=k3.trans aj.kept (λi _ h=>by subst h;exact hFp);have TP:∀g,(Value.slice a3 (q++[k]).length c3).ownBlock=some g->g≠p/\g≠sb/\(F g\/w.heap.size<=g):=λg K7=>by
   rcases hn3 g K7 with h|h
   ·exact⟨(hg g h).1,(hg g h).2.1,.inl (hg g h).2.2⟩
   have:=hp.lt;have:=hs.lt;exact⟨by omega,by omega,.inr (by omega)⟩
  have e:ji q k=q++[k]:=by unfold ji;rw[if_neg qz]
  refine⟨k4,_,sb,aj.aL,?_,by rw[e];exact mV.kept aj.kept (λh=>cf h.symm),cf,TP,.inl hFp,.inl hFs,hP.add hk⟩;rw[e];exact nL.aH aj.kept (λg K7 h=>(TP g K7).1 h)
 have qz:k∈q:=Classical.byContradiction qz;have e:ji q k=q:=by unfold ji;rw[if_pos qz]
 refine⟨Kept.refl _ _,?_⟩;rw[e];exact⟨lv,sb,hp,hl,hs,cf,λg h=>⟨(hg g h).1,(hg g h).2.1,.inl (hg g h).2.2⟩,.inl hFp,.inl hFs,hP⟩
theorem Ul {n:Nat}{q:List Nat}{k:Nat}(hk:k<n):(iB n q).set k (.bool false)=iB n (q.filter (·≠k)):=by
 apply List.ext_getElem?;intro i;rw[List.getElem?_set];by_cases hi:i<n
 ·rw[pU hi,pU hi];split
  ·rename_i e;subst e;rw[if_pos (by simpa[iB] using hk)];simp
  rename_i e;congr 2;rw[decide_eq_decide];simp only[List.mem_filter,decide_eq_true_eq];constructor
  ·intro h;exact⟨h,λh=>e h.symm⟩
  exact λh=>h.1
 have h1:(iB n q)[i]?=none:=List.getElem?_eq_none (by simp[iB];omega);have h2:(iB n (q.filter (·≠k)))[i]?=none:=List.getElem?_eq_none (by simp[iB];omega);rw[h1,h2,if_neg (by omega)]
theorem aB1 (p n:Nat)(q:List Nat)(F:Nat->Prop)(hn:n<1000000)(w:World)(h:Th w p n q F) :
  aw Tryz.prog 91 [.pointer (some ⟨p,0,none⟩)] w λ_ w'=>Kept F w w'/\Th w' p n [] F:=by
 obtain⟨lv,sb,hp,hl,hs,cf,hg,hFp,hFs,hP⟩:=h;have c0:w.cell? ⟨p,0,none⟩=some lv:=hp.cell rfl;obtain⟨a,cp,rfl⟩:=hl.slice;have hql:=hP.len;have oY:=hl.sl;refine aD Tryz.func91 rfl (by kernel_rfl) [] rfl ?_;push_cast -dsimp(maxSteps:=9^7) [Tryz.ntmps91];push_cast -dsimp[c0];refine aK [3,9,10,11,12,13,14,15,16,17,18,19] (λz wx=>∃(i:Nat),z 9=.int .i64 i/\i<=q.length/\Kept (·=sb) w wx/\aN wx sb 4 (iB n (q.drop i))) (λz _=>q.length-(intOf (z 9)).toNat) ?_ ?_
 ·exact⟨0,rfl,Nat.zero_le _,Kept.refl _ _,hs⟩
 intro z wx hI;obtain⟨i,h9,hi,hk,hB⟩:=hI;have hpx:=hp.kept hk cf;have d1:wx.cell? ⟨p,1,none⟩=some (.slice (some ⟨sb,0,none⟩) n n):=hpx.cell rfl;have d0:wx.cell? ⟨p,0,none⟩=some (.slice a q.length cp):=hpx.cell rfl;have Ki:=hl.aH hk (λg x6 h=>(hg g x6).2.1 h);push_cast -dsimp[h9];refine⟨λaq=>?_,λeo=>?_⟩
 ·obtain⟨x,hx,jJ,hd,ht⟩:=ag (l:=q) (i:=i) (by omega);obtain⟨b,o,rfl,hX,aM⟩:=Ki.sl.get hx;have cx:wx.cell? ⟨b,o+i,none⟩=some (.int .i64 x):=by simpa using aM 0 _ rfl
  have hxn:=hP.2 x jJ;push_cast -dsimp[cx,d1];refine⟨⟨by omega,by omega⟩,⟨by omega,by omega⟩,?_⟩;refine aC hB (by simp[iB];exact hxn) rfl ?_;intro w1 aU;rw[Ul hxn]at aU;push_cast -dsimp;refine⟨⟨by omega,by omega⟩,⟨i+1,rfl,by omega,hk.trans aU.kept (λ_ _ h=>h),?_⟩,by rw[h9];simp only[intOf];omega⟩;have e:iB n ((q.drop i).filter (·≠x))=iB n (q.drop (i+1)):=by
   have hnd:(q.drop i).Nodup:=hP.1.sublist (List.drop_sublist _ _);rw[hd]at hnd ⊢
   rw[List.filter_cons_of_neg (by simp)];have:(q.drop (i+1)).filter (·≠x)=q.drop (i+1):=List.filter_eq_self.2 (λy hy=>by
    have:=(List.nodup_cons.1 hnd).1;simp only[decide_eq_true_eq];intro h;subst h;exact this hy)
   rw[this]
  rw[e]at aU;exact aU.aL
 rw[List.drop_eq_nil_of_le (by omega)]at hB;push_cast -dsimp[d0];have l9:∀a' c',Vc.Own 0 3 1 aX wx (.slice a' 0 c') []->(∀g,(Value.slice a' 0 c').ownBlock=some g->(Value.slice a q.length cp).ownBlock=some g)->∀w2,A8 wx w2 p 184 [.slice a' 0 c',.slice (some ⟨sb,0,none⟩) n n]->Kept F w w2/\Th w2 p n [] F:=λa' c' ho K7 w2 bP=>by
  refine⟨(hk.weaken (λi _ h=>by subst h;exact hFs)).trans bP.kept (λi _ h=>by subst h;exact hFp),_,sb,bP.aL,ho.aH bP.kept (λg h1 h2=>(hg g (K7 g h1)).1 h2),hB.kept bP.kept (λh=>cf h.symm),cf,λg h1=>hg g (K7 g h1),hFp,hFs,bz.nil n⟩
 rcases Ki.cut with ⟨rfl,hq0,rfl,rfl⟩|⟨g,rfl,_,hle,lZ⟩
 ·push_cast -dsimp;refine aC hpx (by simp) rfl ?_;intro w2 bP;push_cast -dsimp;exact l9 none 0 Ki (λg h=>h) w2 bP
 push_cast -dsimp;refine⟨by omega,aC hpx (by simp) rfl ?_⟩;intro w2 bP;push_cast -dsimp;exact l9 _ cp (lZ 0 (Nat.zero_le _)) (λg h=>h) w2 bP
def Dp (D:Nat->Prop)(w:World)(pA pB n:Nat)(q nx:List Nat):Prop :=
 ∃FA FB,Th w pA n q FA/\Th w pB n nx FB/\(∀j,FA j->¬FB j)/\(∀j,FA j->D j/\j<w.heap.size)/\(∀j,FB j->D j/\j<w.heap.size)
theorem Dp.swap {D:Nat->Prop}{w:World}{pA pB n:Nat}{q nx:List Nat}(h:Dp D w pA pB n q nx):Dp D w pB pA n nx q:=by
 obtain⟨FA,FB,h1,h2,h3,h4,h5⟩:=h;exact⟨FB,FA,h2,h1,λj hb ha=>h3 j ha hb,h5,h4⟩
theorem Dp.kept {D X:Nat->Prop}{w w':World}{pA pB n:Nat}{q nx:List Nat}(h:Dp D w pA pB n q nx)(hk:Kept X w w')(hX:∀j,D j->j<w.heap.size->¬X j):Dp D w' pA pB n q nx:=by
 obtain⟨FA,FB,h1,h2,h3,h4,h5⟩:=h;have hs:=hk.size;exact⟨FA,FB,h1.kept hk (λj hj=>hX j (h4 j hj).1 (h4 j hj).2),h2.kept hk (λj hj=>hX j (h5 j hj).1 (h5 j hj).2),h3,λj hj=>⟨(h4 j hj).1,by have:=(h4 j hj).2;omega⟩,λj hj=>⟨(h5 j hj).1,by have:=(h5 j hj).2;omega⟩⟩
theorem Dp.narrow {D D':Nat->Prop}{w:World}{pA pB n:Nat}{q nx:List Nat}(h:Dp D w pA pB n q nx)(hD:∀j,D j->j<w.heap.size->D' j):Dp D' w pA pB n q nx:=by
 obtain⟨FA,FB,h1,h2,h3,h4,h5⟩:=h;exact⟨FA,FB,h1,h2,h3,λj hj=>⟨hD j (h4 j hj).1 (h4 j hj).2,(h4 j hj).2⟩,λj hj=>⟨hD j (h5 j hj).1 (h5 j hj).2,(h5 j hj).2⟩⟩
theorem Dp.places {D:Nat->Prop}{w:World}{pA pB n:Nat}{q nx:List Nat}(h:Dp D w pA pB n q nx):bz n q/\bz n nx:=by
 obtain⟨FA,FB,⟨_,_,_,_,_,_,_,_,_,h1⟩,⟨_,_,_,_,_,_,_,_,_,h2⟩,_⟩:=h;exact⟨h1,h2⟩
theorem Dp.read {D:Nat->Prop}{w:World}{pA pB n:Nat}{q nx:List Nat}(h:Dp D w pA pB n q nx):∃a c,w.cell? ⟨pA,0,none⟩=some (.slice a q.length c)/\Sl (λ_=>False) 1 (En aX) w (.slice a q.length c) q:=by
 obtain⟨FA,FB,⟨lv,sb,hp,hl,_⟩,_⟩:=h;obtain⟨a,c,rfl⟩:=hl.slice;exact⟨a,c,hp.cell rfl,hl.sl.weaken (λ_ h=>h.elim)⟩
theorem pX {D:Nat->Prop}{w:World}{pA pB n:Nat}{q nx:List Nat}(h:Dp D w pA pB n q nx){k:Nat}(hk:k<n)(hn:n<1000000) :
  aw Tryz.prog 89 [.pointer (some ⟨pA,0,none⟩),.int .i64 k] w λ_ w'=>Dp (λj=>D j\/w.heap.size<=j) w' pA pB n (ji q k) nx/\Kept D w w':=by
 obtain⟨FA,FB,h1,h2,h3,h4,h5⟩:=h;refine(aF4 pA n q FA k hk hn w h1).mono ?_;rintro _ w' ⟨Dy,hT⟩;have hs:=Dy.size;refine⟨⟨λj=>(FA j\/w.heap.size<=j)/\j<w'.heap.size,FB,?_,h2.kept Dy (λj hj hh=>h3 j hh hj),λj ⟨hj,_⟩ hb=>?_,λj ⟨hj,hl⟩=>⟨?_,hl⟩,λj hj=>⟨.inl (h5 j hj).1,by have:=(h5 j hj).2;omega⟩⟩,Dy.weaken (λi _ hi=>(h4 i hi).1)⟩
 ·obtain⟨lv,sb,g1,g2,g3,g4,g5,g6,g7,g8⟩:=hT;exact⟨lv,sb,g1,g2,g3,g4,λg hg=>⟨(g5 g hg).1,(g5 g hg).2.1,(g5 g hg).2.2,(g2.block g hg).2⟩,⟨g6,g1.lt⟩,⟨g7,g3.lt⟩,g8⟩
 ·rcases hj with hj|hj
  ·exact h3 j hj hb
  have:=(h5 j hb).2;omega
 rcases hj with hj|hj
 ·exact .inl (h4 j hj).1
 exact .inr hj
theorem PL {D:Nat->Prop}{w:World}{pA pB n:Nat}{q nx:List Nat}(h:Dp D w pA pB n q nx)(hn:n<1000000) :
  aw Tryz.prog 91 [.pointer (some ⟨pA,0,none⟩)] w λ_ w'=>Dp D w' pA pB n [] nx/\Kept D w w':=by
 obtain⟨FA,FB,h1,h2,h3,h4,h5⟩:=h;refine(aB1 pA n q FA hn w h1).mono ?_;rintro _ w' ⟨Dy,hT⟩;have hs:=Dy.size;exact⟨⟨FA,FB,hT,h2.kept Dy (λj hj hh=>h3 j hh hj),h3,λj hj=>⟨(h4 j hj).1,by have:=(h4 j hj).2;omega⟩,λj hj=>⟨(h5 j hj).1,by have:=(h5 j hj).2;omega⟩⟩,Dy.weaken (λi _ hi=>(h4 i hi).1)⟩
theorem zL {P:Program}{bt e:TypeId}{bytes:Nat}{z:Value}{n:Nat}{t:Fr}{w:World}{K:VK}{Q:EP}{p}(hE:Bd P bt=some (e,1,bytes))(hz:(P.info? e).bind (·.zero)=some z)(hz1:lG z=true)(hb:bytes*n<=281474976710656)(hn:n<=140737488355328)
  (kk:∀w',mN w w' e (List.replicate n z)->K (.slice (some ⟨w.heap.size,0,none⟩) n n) w'):ak P (Instr.makeSlice bt (.int .i64 n) (.int .i64 n)) t w K Q p:=by
 obtain⟨hu,i,z',hi,hz',hk,rfl,OH,_,_⟩:=nE hE;rw[hi]at hz;simp only[Option.bind_some]at hz;rw[hz']at hz;cases hz
 have:=run_make (P:=P) w bt e i z hu hi hz' .i64 .i64 n n (by omega) (Int.le_refl _) (by rw[<-Int.natCast_mul];omega) (by omega);refine fN this ?_;simp only[Int.toNat_natCast];refine kk _ ⟨?_⟩;congr 2;have hzc:z.cells=#[z]:=by cases z<;>simp_all [lG,Value.cells]
 rw[hzc,hk];apply Array.ext';simp only[madeCells,Array.toList_map,Array.toList_range];apply List.ext_getElem?;intro j;simp only[List.getElem?_map,List.getElem?_replicate,Nat.mul_one];by_cases hj:j<n
 ·simp[hj,Nat.mod_one]
 simp[hj]
def tx (c:aE)(is:List Bool)(wt:List Nat):Prop:=(is[0]?=some true\/0∈wt)/\∀(i:Nat) (x:I3),is[i]?=some true->c.ins[i]?=some x->∀j,vG c x i j->is[j]?=some true\/j∈wt
theorem tx.skip {c:aE}{is:List Bool}{r:List Nat}{k:Nat}(h:tx c is (r++[k]))(hk:is[k]?=some true):tx c is r:=by
 have hm:∀j,j∈r++[k]->is[j]?=some true\/j∈r:=λj hj=>by
  rw[List.mem_append,List.mem_singleton]at hj;rcases hj with hj|rfl
  ·exact .inr hj
  exact .inl hk
 exact⟨h.1.elim .inl (hm 0),λi x h1 h2 j hj=>(h.2 i x h1 h2 j hj).elim .inl (hm j)⟩
theorem tx.step {c:aE}{is:List Bool}{r ys:List Nat}{k:Nat}{x:I3}(h:tx c is (r++[k]))(hk:k<is.length)(hx:c.ins[k]?=some x)(hy:∀j,vG c x k j->j∈ys):tx c (is.set k true) (r++ys):=by
 have uS:∀j:Nat,is[j]?=some true->(is.set k true)[j]?=some true:=λj hj=>by
  rw[List.getElem?_set];by_cases e:k=j
  ·rw[if_pos e,if_pos hk]
  rw[if_neg e];exact hj
 have hm:∀j,j∈r++[k]->(is.set k true)[j]?=some true\/j∈r++ys:=λj hj=>by
  rw[List.mem_append,List.mem_singleton]at hj;rcases hj with hj|rfl
  ·exact .inr (List.mem_append.2 (.inl hj))
  exact .inl (by rw[List.getElem?_set,if_pos rfl,if_pos hk])
 refine⟨h.1.elim (λh=>.inl (uS 0 h)) (hm 0),λi y h1 h2 j hj=>?_⟩;by_cases e:i=k
 ·subst e;rw[hx]at h2;cases h2;exact .inr (List.mem_append.2 (.inr (hy j hj)))
 rw[List.getElem?_set,if_neg (λh=>e h.symm)]at h1;exact(h.2 i y h1 h2 j hj).elim (λh=>.inl (uS j h)) (hm j)
theorem tx.done {c:aE}{is:List Bool}(h:tx c is [])(hl:is.length=c.ins.length):ts c is :=
 ⟨hl,h.1.elim id (λh=>by cases h),λi x h1 h2 j hj=>(h.2 i x h1 h2 j hj).elim id (λh=>by cases h)⟩
def zD (is:List Bool):List Value:=is.map .bool
def cntF (w:World)(sb:Nat):Nat:=match w.heap[sb]? with
 | some (.cells cs _ _)=>(cs.toList.filter (λv=>match v with|.bool false=>true|_=>false)).length
 | _=>0
def Kz:Value->Nat
 | .slice _ n _=>n
 | _=>0
theorem gg {w:World}{sb:Nat}{e:TypeId}{is:List Bool}(h:aN w sb e (zD is)):cntF w sb=(is.filter (! ·)).length:=by
 unfold cntF;rw[show w.heap[sb]?=_ from h]
 simp only[zD];clear h;induction is with
 | nil=>rfl
 | cons b l ih =>
  cases b<;>simp[List.filter_cons]at ih ⊢<;>exact ih
theorem gI:∀(is:List Bool) (k:Nat),is[k]?=some false->((is.set k true).filter (! ·)).length+1=(is.filter (! ·)).length
 | [],k,h=>by simp at h
 | b::l,0,h=>by simp at h;subst h;simp
 | b::l,k+1,h=>by
  have:=gI l k (by simpa using h);cases b<;>simp[List.filter_cons]<;>omega
theorem U3 (c:aE)(hc:CR c)(v:Value)(w:World)(hv:cz (λ_=>False) w v c) :
  aw Tryz.prog 140 [v] w λr w'=>(∃is sb,r=.slice (some ⟨sb,0,none⟩) c.ins.length c.ins.length/\aN w' sb 4 (zD is)/\ts c is/\w.heap.size<=sb)/\Below w.heap.size w w':=by
 have hm:=hc.many;have uP:=hc.one;have Kr:=hv;obtain⟨sv,iv,rfl,uU,vA⟩:=hv;obtain⟨a,cp,rfl,TG⟩:=vA.shape;have IA:=uU.shape;obtain⟨sa,sc,rfl,yI⟩:=IA;refine aD Tryz.func140 rfl (by kernel_rfl) [2] rfl ?_;push_cast -dsimp(maxSteps:=9^7) [Tryz.ntmps140];refine aS ?_;intro w1 aU;have aU:mN w w1 127 [.slice sa c.sets.length sc,.slice a c.ins.length cp]:=aU;have qw:=aU.size;have c0:w1.cell? ⟨w.heap.size,1,none⟩=some (.slice a c.ins.length cp):=aU.cell rfl;push_cast -dsimp[c0];refine zL (z:=.bool false) pt (by kernel_rfl) rfl (by omega) (by omega) ?_;intro w2 bP;have EE:=bP.size;push_cast -dsimp;refine cF ay rfl rfl (by omega) ?_;intro w3 dA;have PA:=dA.size;have nL:=dA.own (base:=w2.heap.size) (k:=1) (n:=1) (enc:=aX) (l:=[0]) rfl rfl (λ_=>rfl) (Nat.le_refl _) (by omega);have Nd:aN w3 w1.heap.size 4 (zD (List.replicate c.ins.length false)):=by
  have:=bP.aL.below dA.below (by omega);unfold zD;rw[List.map_replicate];exact this
 have hC3:aN w3 w.heap.size 127 [.slice sa c.sets.length sc,.slice a c.ins.length cp]:=(aU.aL.below bP.below (by omega)).below dA.below (by omega);have gB:Below w.heap.size w w3:=aU.below.trans ((bP.below.mono (by omega)).trans (dA.below.mono (by omega)));push_cast -dsimp;refine aK [4,5,6,12,13,14,15,16,17,18,19,20,21,22,23,24,25,26,27,28,29,30,31,32,33,34,35,36,37,38,39,40,41,42,43,44,45,46,47,48,49,50,51,52,53,54,55,56,57,58,59,60,61,62,63,64,65,66,67,68,69,70,71,72,73,74,75,76,77] (λz wx=>∃(is:List Bool) (wt:List Nat) (wv:Value),z 4=wv/\Vc.Own w2.heap.size 3 1 aX wx wv wt/\aN wx w1.heap.size 4 (zD is)/\is.length=c.ins.length/\(∀k∈wt,k<c.ins.length)/\tx c is wt/\wt.length+2*(is.filter (! ·)).length<=2*c.ins.length+1 /\
   aN wx w.heap.size 127 [.slice sa c.sets.length sc,.slice a c.ins.length cp]/\Below w.heap.size w wx) (λz wx=>3*cntF wx w1.heap.size+Kz (z 4)) ?_ ?_
 ·refine⟨List.replicate c.ins.length false,[0],_,rfl,nL,Nd,by simp,by simp;omega,⟨.inr (by simp),λi x h=>?_⟩,by simp;omega,hC3,gB⟩;rw[List.getElem?_replicate]at h;split at h<;>simp at h
 intro z wx hI;obtain⟨is,wt,wv,h4,eU,lr,Kb,hwt,yy,hwl,hCx,bS⟩:=hI;have oY:=eU.slice;obtain⟨wa,wc,rfl⟩:=oY;have A5:=bS.size;have hBl:=lr.lt;rcases List.eq_nil_or_concat wt with rfl|⟨r,k,aMy⟩
 ·push_cast -dsimp[h4];exact⟨⟨is,_,rfl,lr,yy.done Kb,by omega⟩,bS⟩
 rw[List.concat_eq_append]at aMy;subst aMy;have QW:=hwt k (by simp);have lZ:=eU.cut;rcases lZ with ⟨_,h0,_⟩|⟨g,rfl,_,hle,lZ⟩
 ·simp at h0
 have YS:=lZ r.length (by simp);rw[List.take_left]at YS;have Ad:=eU.block g rfl;have Hw:r.length<=2*c.ins.length:=by rw[List.length_append,List.length_singleton]at hwl;omega
 rw[List.length_append,List.length_singleton]at hle;have h4':z 4=.slice (some ⟨g,0,none⟩) (r.length+1) wc:=by rw[h4,List.length_append];rfl
 have hgk:=eU.sl.get (i:=r.length) (x:=k) (by rw[List.getElem?_append_right (Nat.le_refl _),Nat.sub_self];rfl);obtain⟨b,o,e,_,aM⟩:=hgk;cases e;have cw:wx.cell? ⟨g,r.length,none⟩=some (.int .i64 k):=by simpa using aM 0 _ rfl
 have hgi:=ag (l:=is) (i:=k) (by omega);obtain⟨bk,Sz,_⟩:=hgi;have ck:wx.cell? ⟨w1.heap.size,k,none⟩=some (.bool bk):=lr.cell (by unfold zD;rw[List.getElem?_map,Sz];rfl);have mH:=ag (l:=c.ins) (i:=k) QW;obtain⟨x,hx,_⟩:=mH;have hC1:wx.cell? ⟨w.heap.size,1,none⟩=some (.slice a c.ins.length cp):=hCx.cell rfl;have aP8:=(vA.below bS).get hx;obtain⟨ib,io,rfl,_,hic⟩:=aP8;have ci:aB wx ⟨ib,io+k*3,none⟩ 0 3=some (bX x):=ao (bX x) 0 (λj u hu=>by simpa using hic j u hu);unfold bX at ci;cases bk with
 | true =>
  push_cast -dsimp[h4',Int.add_sub_cancel,cw,ck,hC1];refine⟨λ_=>⟨⟨by omega,by omega⟩,⟨by omega,by omega⟩,⟨by omega,by omega⟩,⟨by omega,by omega⟩,?_⟩,λh=>absurd h (by omega)⟩;exact⟨⟨by omega,by omega⟩,⟨is,r,_,rfl,YS,lr,Kb,λj hj=>hwt j (by simp[hj]),yy.skip Sz,by rw[List.length_append]at hwl;omega,hCx,bS⟩,by simp only[Kz];omega⟩
 | false =>
  push_cast -dsimp[h4',Int.add_sub_cancel,cw,ck,hC1];refine⟨λ_=>⟨⟨by omega,by omega⟩,⟨by omega,by omega⟩,⟨by omega,by omega⟩,⟨by omega,by omega⟩,?_⟩,λh=>absurd h (by omega)⟩;have lu:=Sz;refine⟨⟨by omega,by omega⟩,⟨by omega,by omega⟩,?_⟩;refine aC lr (by unfold zD;rw[List.length_map];omega) rfl ?_;intro w4 aj;have ER:aN w4 w1.heap.size 4 (zD (is.set k true)):=by
   have:=aj.aL;unfold zD at this ⊢
   rw[List.map_set];exact this
  have Mn:=aj.size;have hC4:=hCx.kept aj.kept (by omega);have ly:=YS.aH aj.kept (λg' x6 h=>by have:g=g':=(by simpa[Value.ownBlock] using x6);omega);have kK:Below w.heap.size w w4:=bS.trans (aj.kept.below (by omega) (λ_ h=>by omega));have ci4:aB w4 ⟨ib,io+k*3,none⟩ 0 3=some [.int .i64 x.op,.int .i64 x.a,.int .i64 x.b]:=by
   have EZ:=((vA.below kK)).get hx;obtain⟨ib',io',e',_,aQc⟩:=EZ;cases e';exact ao (bX x) 0 (λj u hu=>by simpa using aQc j u hu)
  have aOH:w4.cell? ⟨w.heap.size,1,none⟩=some (.slice (some ⟨ib,io,none⟩) c.ins.length cp):=hC4.cell rfl;push_cast -dsimp[aOH,ci4];refine⟨⟨by omega,by omega⟩,?_⟩;refine ah (z:=[.int .i64 0,.int .i64 0,.int .i64 0]) (by kernel_rfl) ?_;intro w5 cG;have PC:=cG.size;push_cast -dsimp;refine aI (n:=3) (by kernel_rfl) cG.aL rfl (by simp) (by simp[Value.oneCell']) ?_;intro w6 bW;have MN:=bW.size;have Du:aN w6 w4.heap.size 164 [.int .i64 x.op,.int .i64 x.a,.int .i64 x.b]:=bW.aL;have k6:Kept (λj=>j=w4.heap.size) w4 w6:=(Kept.new cG).trans bW.kept (λ_ _ h=>h);have rA:=ly.aH k6 (λg' x6 h=>by have:=ly.block g' x6;omega);have sY:=ER.kept k6 (by omega);have Xy:=hC4.kept k6 (by omega);have lk:Below w.heap.size w w6:=kK.trans (k6.below (by omega) (λ_ h=>by omega));have t0:w6.cell? ⟨w4.heap.size,0,none⟩=some (.int .i64 x.op):=Du.cell rfl;have t1:w6.cell? ⟨w4.heap.size,1,none⟩=some (.int .i64 x.a):=Du.cell rfl;have t2:w6.cell? ⟨w4.heap.size,2,none⟩=some (.int .i64 x.b):=Du.cell rfl;have s0:w6.cell? ⟨w.heap.size,0,none⟩=some (.slice sa c.sets.length sc):=Xy.cell rfl;push_cast -dsimp[t0,t1,t2,s0];have aFq:=cY (hc.ins k x hx);rcases aFq with ⟨e,g1,g2,g3⟩|⟨e,g1,g2,g3,g4⟩|⟨e,g1,g2,g3⟩|⟨e|e,g1,g2⟩
  ·have j7:=hc.next k x hx (.inl e);have Hg:x.a=((x.a.toNat:Nat):Int):=by rw[Int.toNat_of_nonneg g1]
   have hgs:=ag (l:=c.sets) (i:=x.a.toNat) (by omega);obtain⟨ss,hss,_⟩:=hgs;have hgs:=Sl.AJ (eH.below uU lk) hss;obtain⟨qb,qo,qcs,rfl,_,hqk,hqc,u,rfl,hu⟩:=hgs;have eN:=hu.shape;obtain⟨ua,uc,rfl,_⟩:=eN;have cq:w6.cell? ⟨qb,qo+x.a.toNat,none⟩=some (.slice ua ss.length uc):=by simpa using hqc 0 _ rfl
   have hsd:c.sets.getD x.a.toNat []=ss:=by rw[List.getD_eq_getElem?_getD,hss];rfl
   have ge:decide (x.op=1)=true:=decide_eq_true e;refine⟨λ_=>⟨⟨by omega,by omega⟩,?_⟩,λh=>absurd e h⟩;push_cast -dsimp[cq];refine⟨λqB=>?_,λhzero=>?_⟩
   ·refine⟨⟨by omega,by omega⟩,?_⟩;have hy:∀j,vG c x k j->j∈[k+1]:=λj hj=>by
     rcases hj with ⟨e',_⟩|⟨e',_⟩|⟨e',rfl⟩|⟨e',_,rfl⟩<;>first|(exfalso;omega)|simp
    refine cF ay rfl rfl (by omega) ?_;intro w7 fQ;have MO:=fQ.size;push_cast -dsimp;refine aP (base:=w2.heap.size) [k+1] (enc:=aX) ay (rA.new fQ) (by rfl) (λj u hu=>by simpa[aX] using fQ.cell hu) (by simp[aX,Value.oneCell']) (by simp only[List.length_cons,List.length_nil];omega) (by omega) ?_;intro v9 w9 AU hg9 hn9;have Y1:Kept (λj=>j=g) w7 w9:=Kept.grown hg9 (λj h=>by have:g=j:=(by simpa[Value.ownBlock] using h);omega);have k9:Kept (λj=>j=g) w6 w9:=(Kept.new fQ).trans Y1 (λ_ _ h=>h);have Dq:=sY.kept k9 (by omega);have Xz:=Xy.kept k9 (by omega);have pd:Below w.heap.size w w9:=lk.trans (k9.below (by omega) (λ_ h=>by omega));have OB:=AU.slice;obtain⟨a9,c9,rfl⟩:=OB;push_cast -dsimp;have j8:tx c (is.set k true) (r++[k+1]):=yy.step (by omega) hx hy;refine⟨⟨is.set k true,r++[k+1],_,rfl,AU,Dq,by rw[List.length_set];exact Kb,?_,j8,?_,Xz,pd⟩,?_⟩
    ·intro j hj;rw[List.mem_append]at hj;rcases hj with hj|hj
     ·exact hwt j (List.mem_append.2 (.inl hj))
     simp at hj
     all_goals omega
    ·have:=gI is k lu;simp only[List.length_append,List.length_cons,List.length_nil]at hwl ⊢
     omega
    rw[gg Dq,gg lr,h4]
    have:=gI is k lu;simp only[Kz,List.length_append,List.length_cons,List.length_nil];omega
   have hs0:ss=[]:=List.eq_nil_of_length_eq_zero (by omega);have hy:∀j,vG c x k j->j∈([]:List Nat):=λj hj=>by
    rcases hj with ⟨e',_⟩|⟨e',_⟩|⟨e',rfl⟩|⟨e',hh,rfl⟩<;>first|(exfalso;omega)|exact absurd (hsd.trans hs0) hh
   have AU:Vc.Own w2.heap.size 3 1 aX w6 (.slice (some ⟨g,0,none⟩) r.length wc) (r++[]):=by rw[List.append_nil];exact rA
   have Dq:=sY;have Xz:=Xy;have pd:=lk;have j8:tx c (is.set k true) (r++[]):=yy.step (by omega) hx hy;refine⟨⟨is.set k true,r++[],_,rfl,AU,Dq,by rw[List.length_set];exact Kb,?_,j8,?_,Xz,pd⟩,?_⟩
   ·intro j hj;rw[List.mem_append]at hj;rcases hj with hj|hj
    ·exact hwt j (List.mem_append.2 (.inl hj))
    simp at hj
    all_goals omega
   ·have:=gI is k lu;simp only[List.length_append,List.length_cons,List.length_nil]at hwl ⊢
    omega
   rw[gg Dq,gg lr,h4]
   have:=gI is k lu;simp only[Kz,List.length_append,List.length_cons,List.length_nil];omega
  ·have Hg:x.a=((x.a.toNat:Nat):Int):=by rw[Int.toNat_of_nonneg g1]
   have Sy:x.b=((x.b.toNat:Nat):Int):=by rw[Int.toNat_of_nonneg g3]
   refine⟨λh=>absurd h (by omega),λ_=>⟨λh=>absurd h (by omega),λ_=>⟨λh=>absurd h (by omega),λ_=>⟨λ_=>?_,λh=>absurd e h⟩⟩⟩⟩;have hy:∀j,vG c x k j->j∈[x.a.toNat,x.b.toNat]:=λj hj=>by
    rcases hj with ⟨e',rfl|rfl⟩|⟨e',_⟩|⟨e',rfl⟩|⟨e',hh,rfl⟩<;>first|(exfalso;omega)|simp
   rw[Hg,Sy];refine cF ay rfl rfl (by omega) ?_;intro w7 fQ;have MO:=fQ.size;push_cast -dsimp;refine aP (base:=w2.heap.size) [x.a.toNat,x.b.toNat] (enc:=aX) ay (rA.new fQ) (by rfl) (λj u hu=>by simpa[aX] using fQ.cell hu) (by simp[aX,Value.oneCell']) (by simp only[List.length_cons,List.length_nil];omega) (by omega) ?_;intro v9 w9 AU hg9 hn9;have Y1:Kept (λj=>j=g) w7 w9:=Kept.grown hg9 (λj h=>by have:g=j:=(by simpa[Value.ownBlock] using h);omega);have k9:Kept (λj=>j=g) w6 w9:=(Kept.new fQ).trans Y1 (λ_ _ h=>h);have Dq:=sY.kept k9 (by omega);have Xz:=Xy.kept k9 (by omega);have pd:Below w.heap.size w w9:=lk.trans (k9.below (by omega) (λ_ h=>by omega));have OB:=AU.slice;obtain⟨a9,c9,rfl⟩:=OB;push_cast -dsimp;have j8:tx c (is.set k true) (r++[x.a.toNat,x.b.toNat]):=yy.step (by omega) hx hy;refine⟨⟨is.set k true,r++[x.a.toNat,x.b.toNat],_,rfl,AU,Dq,by rw[List.length_set];exact Kb,?_,j8,?_,Xz,pd⟩,?_⟩
   ·intro j hj;rw[List.mem_append]at hj;rcases hj with hj|hj
    ·exact hwt j (List.mem_append.2 (.inl hj))
    simp at hj
    all_goals omega
   ·have:=gI is k lu;simp only[List.length_append,List.length_cons,List.length_nil]at hwl ⊢
    omega
   rw[gg Dq,gg lr,h4]
   have:=gI is k lu;simp only[Kz,List.length_append,List.length_cons,List.length_nil];omega
  ·have Hg:x.a=((x.a.toNat:Nat):Int):=by rw[Int.toNat_of_nonneg g1]
   refine⟨λh=>absurd h (by omega),λ_=>⟨λh=>absurd h (by omega),λ_=>⟨λ_=>?_,λh=>absurd e h⟩⟩⟩;have hy:∀j,vG c x k j->j∈[x.a.toNat]:=λj hj=>by
    rcases hj with ⟨e',_⟩|⟨e',rfl⟩|⟨e',rfl⟩|⟨e',hh,rfl⟩<;>first|(exfalso;omega)|simp
   rw[Hg];refine cF ay rfl rfl (by omega) ?_;intro w7 fQ;have MO:=fQ.size;push_cast -dsimp;refine aP (base:=w2.heap.size) [x.a.toNat] (enc:=aX) ay (rA.new fQ) (by rfl) (λj u hu=>by simpa[aX] using fQ.cell hu) (by simp[aX,Value.oneCell']) (by simp only[List.length_cons,List.length_nil];omega) (by omega) ?_;intro v9 w9 AU hg9 hn9;have Y1:Kept (λj=>j=g) w7 w9:=Kept.grown hg9 (λj h=>by have:g=j:=(by simpa[Value.ownBlock] using h);omega);have k9:Kept (λj=>j=g) w6 w9:=(Kept.new fQ).trans Y1 (λ_ _ h=>h);have Dq:=sY.kept k9 (by omega);have Xz:=Xy.kept k9 (by omega);have pd:Below w.heap.size w w9:=lk.trans (k9.below (by omega) (λ_ h=>by omega));have OB:=AU.slice;obtain⟨a9,c9,rfl⟩:=OB;push_cast -dsimp;have j8:tx c (is.set k true) (r++[x.a.toNat]):=yy.step (by omega) hx hy;refine⟨⟨is.set k true,r++[x.a.toNat],_,rfl,AU,Dq,by rw[List.length_set];exact Kb,?_,j8,?_,Xz,pd⟩,?_⟩
   ·intro j hj;rw[List.mem_append]at hj;rcases hj with hj|hj
    ·exact hwt j (List.mem_append.2 (.inl hj))
    simp at hj
    all_goals omega
   ·have:=gI is k lu;simp only[List.length_append,List.length_cons,List.length_nil]at hwl ⊢
    omega
   rw[gg Dq,gg lr,h4]
   have:=gI is k lu;simp only[Kz,List.length_append,List.length_cons,List.length_nil];omega
  ·have j7:=hc.next k x hx (.inr e);refine⟨λh=>absurd h (by omega),λ_=>⟨λ_=>⟨⟨by omega,by omega⟩,?_⟩,λh=>absurd e h⟩⟩;have hy:∀j,vG c x k j->j∈[k+1]:=λj hj=>by
    rcases hj with ⟨e',_⟩|⟨e',_⟩|⟨e',rfl⟩|⟨e',_,rfl⟩<;>first|(exfalso;omega)|simp
   refine cF ay rfl rfl (by omega) ?_;intro w7 fQ;have MO:=fQ.size;push_cast -dsimp;refine aP (base:=w2.heap.size) [k+1] (enc:=aX) ay (rA.new fQ) (by rfl) (λj u hu=>by simpa[aX] using fQ.cell hu) (by simp[aX,Value.oneCell']) (by simp only[List.length_cons,List.length_nil];omega) (by omega) ?_;intro v9 w9 AU hg9 hn9;have Y1:Kept (λj=>j=g) w7 w9:=Kept.grown hg9 (λj h=>by have:g=j:=(by simpa[Value.ownBlock] using h);omega);have k9:Kept (λj=>j=g) w6 w9:=(Kept.new fQ).trans Y1 (λ_ _ h=>h);have Dq:=sY.kept k9 (by omega);have Xz:=Xy.kept k9 (by omega);have pd:Below w.heap.size w w9:=lk.trans (k9.below (by omega) (λ_ h=>by omega));have OB:=AU.slice;obtain⟨a9,c9,rfl⟩:=OB;push_cast -dsimp;have j8:tx c (is.set k true) (r++[k+1]):=yy.step (by omega) hx hy;refine⟨⟨is.set k true,r++[k+1],_,rfl,AU,Dq,by rw[List.length_set];exact Kb,?_,j8,?_,Xz,pd⟩,?_⟩
   ·intro j hj;rw[List.mem_append]at hj;rcases hj with hj|hj
    ·exact hwt j (List.mem_append.2 (.inl hj))
    simp at hj
    all_goals omega
   ·have:=gI is k lu;simp only[List.length_append,List.length_cons,List.length_nil]at hwl ⊢
    omega
   rw[gg Dq,gg lr,h4]
   have:=gI is k lu;simp only[Kz,List.length_append,List.length_cons,List.length_nil];omega
  refine⟨λh=>absurd h (by omega),λ_=>⟨λh=>absurd h (by omega),λ_=>⟨λh=>absurd h (by omega),λ_=>⟨λh=>absurd h (by omega),λ_=>?_⟩⟩⟩⟩;have hy:∀j,vG c x k j->j∈([]:List Nat):=λj hj=>by
   rcases hj with ⟨e',_⟩|⟨e',_⟩|⟨e',rfl⟩|⟨e',hh,rfl⟩<;>(exfalso;omega)
  have AU:Vc.Own w2.heap.size 3 1 aX w6 (.slice (some ⟨g,0,none⟩) r.length wc) (r++[]):=by rw[List.append_nil];exact rA
  have Dq:=sY;have Xz:=Xy;have pd:=lk;have j8:tx c (is.set k true) (r++[]):=yy.step (by omega) hx hy;refine⟨⟨is.set k true,r++[],_,rfl,AU,Dq,by rw[List.length_set];exact Kb,?_,j8,?_,Xz,pd⟩,?_⟩
  ·intro j hj;rw[List.mem_append]at hj;rcases hj with hj|hj
   ·exact hwt j (List.mem_append.2 (.inl hj))
   simp at hj
   all_goals omega
  ·have:=gI is k lu;simp only[List.length_append,List.length_cons,List.length_nil]at hwl ⊢
   omega
  rw[gg Dq,gg lr,h4]
  have:=gI is k lu;simp only[Kz,List.length_append,List.length_cons,List.length_nil];omega
end
end Go.Proofs.YtemjejfpadnljaaGreatDoor
