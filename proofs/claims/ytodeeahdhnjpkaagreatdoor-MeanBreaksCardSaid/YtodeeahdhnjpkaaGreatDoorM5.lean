/- Texts of this claim, merged: Rng, Spl, Pin2, Par, Al2, Prl1, Prl2. -/
import Derived.Test.YtodeeahdhnjpkaaGreatDoorM4
import Derived.RangeFuncFrom
import Derived.LoopIn
import Derived.RangeFuncLeaves
import Derived.Shelf.Strconv.ToErrorRange
import Derived.Shelf.Strconv.ToError
set_option maxRecDepth 100000
set_option linter.unusedSimpArgs false
set_option linter.unusedVariables false
set_option maxHeartbeats 8000000
section
namespace Go.Vc
open Go.RowKit
section
variable {P:Program} {n:Nat} {ro:Option Nat} {ds:List Deferred}
def xP (ro:Option Nat):Fence:={ Fence.wide with round:=ro }
theorem Qw {f:FuncId}{args:Array Value}{w:World}{R:Ending->World->Prop}(h:Calls P f args w R):CallsIn (xP ro) n P f args w R:=(callsIn_wide (n:=n)).2 h
def G4 (ds:List Deferred)(Q:EP):Exit->Act->World->Prop:=λe a w=>a.defers=ds/\Q e a.tmps.toList w
theorem iR (t:Fr)(d:Option Tmp)(v:Value):(Act.mk t.toArray ds).put d v=⟨(put t d v).toArray,ds⟩:=by
 cases d<;>simp[Act.put,put]
theorem mY {a:Act}(h:a.defers=ds):a=⟨a.tmps.toList.toArray,ds⟩:=by cases a;simp_all
theorem Gy {o:Oper}{t:Fr}{K:Value->World->Prop}{Q:EP}{r:Result Next}{next:Act->World->Prop}
  (hn:∀v w',K v w'->next ⟨(put t o.dst v).toArray,ds⟩ w') (h:qD P t K Q r):o.uponIn (xP ro) n P ⟨t.toArray,ds⟩ next (G4 ds Q) r:=by
 cases r with
 | ok x w' =>
  cases x<;>simp only[qD]at h<;>simp only[Oper.uponIn]
  case value v=>rw[iR];exact hn _ _ h
  case skip=>rw[iR];exact hn _ _ h
  case enter f args =>
   refine⟨(λhh=>by cases hh),Qw (h.mono λe ar he=>?_)⟩;cases e with
   | returned v=>dsimp only at he ⊢;rw[iR];exact hn _ _ he
   | panicked c=>exact⟨rfl,by simpa using he⟩
   | outgrown=>exact he.elim
 | halt x w' =>
  cases x<;>simp only[qD]at h<;>simp only[Oper.uponIn];exact⟨rfl,by simpa using h⟩
def lS (o:Oper):Bool:=match o.op with|.defer _=>false|_=>true
theorem Ji {o:Oper}(h:lS o=true):∀c,o.op≠.defer c:=λc e=>by simp[lS,e]at h
theorem BO {o:Oper}(h:lS o=true)(ro:Option Nat)(ρ:Operand->Value):Oper.semAt ro ρ o=execOp ρ o:=Oper.semAt_eq ro ρ o (Ji h)
theorem Hk {o:Oper}(hd:lS o=true){t:Fr}{w:World}{K:Value->World->Prop}{Q:EP}{next:Act->World->Prop}
  (hn:∀v w',K v w'->next ⟨(put t o.dst v).toArray,ds⟩ w') (h:cN P o t w K Q .mk):o.wpIn (xP ro) n P ⟨t.toArray,ds⟩ w next (G4 ds Q):=by
 have h':=DY h;unfold runK at h';refine⟨λ_ _=>trivial,?_⟩;rw[BO hd,ln];exact Gy hn h'
theorem mN {ops:List Oper}{K:Fr->World->Prop}{Q:EP}{next:Exit->Act->World->Prop}(rest:List Oper)(hn:∀t w,K t w->wpListIn (xP ro) n P ops.toArray next rest ⟨t.toArray,ds⟩ w)(hq:∀e a w,G4 ds Q e a w->next e a w) :
  ∀(l:List Oper),l.all lS=true->∀(t:Fr) (w:World),aW P ops K Q l t w .mk->wpListIn (xP ro) n P ops.toArray next (l++rest) ⟨t.toArray,ds⟩ w
 | [],_,t,w,h=>hn t w h
 | o::r,hd,t,w,h=>by
  simp only[List.all_cons,Bool.and_eq_true]at hd;rw[List.cons_append];have step:∀(t':Fr),Region.wanted o (yielded ops.toArray t'.toArray)=true->cN P o t' w (λv w'=>aW P ops K Q r (put t' o.dst v) w' .mk) Q .mk->wpListIn (xP ro) n P ops.toArray next (o::(r++rest)) ⟨t'.toArray,ds⟩ w:=λt' hw h'=>by
   unfold wpListIn;rw[if_pos hw]
   have:=Hk (ro:=ro) (n:=n) (ds:=ds) hd.1 (next:=wpListIn (xP ro) n P ops.toArray next (r++rest)) (λv w' hk=>mN rest hn hq r hd.2 _ w' hk) h'
   refine⟨this.1,?_⟩;have h2:=this.2;generalize (Oper.semAt _ _ o).run P w=res at h2 ⊢
   cases res with
   | ok x w' =>
    cases x<;>simp only[Oper.uponIn]at h2 ⊢<;>first|exact h2|skip
    ·exact⟨h2.1,h2.2.mono λe ar he=>by
      cases e with
      | returned v=>exact he
      | panicked c=>exact hq _ _ _ he
      | outgrown=>obtain⟨a₀,w₀,hh⟩:=he;exact⟨a₀,w₀,hq _ _ _ hh⟩⟩
    exact⟨h2.1,h2.2.mono λe ar he=>by
     cases e with
     | returned v=>exact he
     | panicked c=>exact hq _ _ _ he
     | outgrown=>obtain⟨a₀,w₀,hh⟩:=he;exact⟨a₀,w₀,hq _ _ _ hh⟩⟩
   | halt x w'=>cases x<;>simp only[Oper.uponIn]at h2 ⊢<;>first|exact h2|exact hq _ _ _ h2
  have skip:∀(t':Fr),Region.wanted o (yielded ops.toArray t'.toArray)=false->aW P ops K Q r (put t' o.dst undef) w .mk->wpListIn (xP ro) n P ops.toArray next (o::(r++rest)) ⟨t'.toArray,ds⟩ w:=λt' hw h'=>by
   unfold wpListIn;rw[if_neg (by rw[hw];simp),iR];exact⟨λ_ _=>trivial,mN rest hn hq r hd.2 _ w h'⟩
  simp only[aW]at h;split at h
  ·rename_i hg;exact step t (by simp[Region.wanted,hg]) h
  rename_i j want hg;have j5:∀t':Fr,Region.wanted o (yielded ops.toArray t'.toArray)=(yielded ops.toArray t'.toArray j == some want):=λt'=>by simp only[Region.wanted,hg]
  unfold gJ at h;split at h
  ·rename_i hs;exact skip t (by rw[j5,ec,hs];rfl) h
  rename_i s hs;split at h
  ·rename_i b hb;have bZ:s<t.length:=by
    rcases Nat.lt_or_ge s t.length with h'|h'
    ·exact h'
    simp[List.getD_eq_getElem?_getD,List.getElem?_eq_none h',undef]at hb
   have hv:t[s]?=some (.bool b):=by
    rw[List.getD_eq_getElem?_getD]at hb;rw[List.getElem?_eq_getElem bZ]at hb ⊢
    simpa using hb
   have hy:yielded ops.toArray t.toArray j=some b:=by rw[ec,hs];simp[hv]
   have same:=ir t s bZ;rw[hb]at same;by_cases Hp:b=want
   ·subst Hp;have h1:=h.1 rfl;rw[same]at h1;exact step t (by rw[j5,hy];simp) h1
   have DA:b=!want:=by cases b<;>cases want<;>simp_all
   have h2:=h.2 DA;rw[<-DA,same]at h2;exact skip t (by rw[j5,hy];simpa using Hp) h2
  rename_i hb;refine skip t ?_ h;rw[j5,ec,hs];simp only[Option.bind_some];cases hv:t[s]? with
  | none=>rfl
  | some v =>
   have:t.getD s undef=v:=by rw[List.getD_eq_getElem?_getD,hv];rfl
   rw[this]at hb;cases v<;>simp at hb ⊢
def j9:Code->Bool
 | .skip|.exit _|.ret|.label _|.goto _=>true
 | .region _ ops false=>ops.toList.all lS
 | .seq a b=>j9 a && j9 b
 | .cond _ a b=>j9 a && j9 b
 | .block _ c=>j9 c
 | _=>false
theorem lV:∀(c:Code),j9 c=true->∀(Q:EP) (t:Fr) (w:World),vc P c Q t w .mk->c.wpIn (xP ro) n P (G4 ds Q) ⟨t.toArray,ds⟩ w
 | .skip,_,_,_,_,h=>wpIn_skip ⟨rfl,by simpa[vc] using h⟩
 | .region _ ops false,hp,Q,t,w,h=>by
  refine wpIn_region_list ?_
  have:=mN (P:=P) (n:=n) (ro:=ro) (ds:=ds) (ops:=ops.toList) (K:=Q .normal) (Q:=Q) (next:=G4 ds Q) [] (λt w hk=>⟨rfl,by simpa using hk⟩) (λ_ _ _ h=>h) ops.toList hp t w h
  simpa using this
 | .seq a b,hp,Q,t,w,h=>by
  simp only[j9,Bool.and_eq_true]at hp;refine wpIn_seq (Code.wpIn_mono ?_ (lV a hp.1 _ t w h));rintro e a' w' ⟨hd,hh⟩;cases e<;>simp only[np]at hh<;>simp only[Exit.then]<;>first|exact⟨hd,hh⟩|skip
  have:=lV b hp.2 Q _ w' hh;rw[mY hd];exact this
 | .cond c a b,hp,Q,t,w,h=>by
  simp only[j9,Bool.and_eq_true]at hp;simp only[vc]at h;unfold nQ at h;split at h
  ·rename_i x hx;exact wpIn_cond_split (t:=x) (by rw[ln];exact hx) (λNW=>lV a hp.1 Q t w (h.1 NW)) (λNW=>lV b hp.2 Q t w (h.2 NW))
  exact h.elim
 | .block i c,hp,Q,t,w,h=>by
  refine wpIn_block (Code.wpIn_mono ?_ (lV c hp _ t w h));rintro e a' w' ⟨hd,hh⟩;cases e<;>simp only[jB]at hh<;>simp only[Exit.inBlock]<;>first|exact⟨hd,hh⟩|skip
  split at hh
  ·rename_i e;simp only[e,if_true];exact⟨hd,hh⟩
  rename_i e;simp only[e,if_false];exact⟨hd,hh⟩
 | .exit i,_,_,_,_,h=>wpIn_exit ⟨rfl,by simpa[vc] using h⟩
 | .ret,_,_,_,_,h=>wpIn_ret ⟨rfl,by simpa[vc] using h⟩
 | .label _,_,_,_,_,h=>wpIn_label ⟨rfl,by simpa[vc] using h⟩
 | .goto l,_,_,_,_,h=>wpIn_goto ⟨rfl,by simpa[vc] using h⟩
 | .region _ _ true,hp,_,_,_,_=>by cases hp
 | .loop _,hp,_,_,_,_=>by cases hp
 | .scope _,hp,_,_,_,_=>by cases hp
 | .rangeFunc ..,hp,_,_,_,_=>by cases hp
 | .refuse _,hp,_,_,_,_=>by cases hp
def yf {α:Type}(Z:Nat->Prop)(I:List α->World->Prop)(Ix:Code->List α->World->Prop)(xs:List α)(W:World):Exit->Act->World->Prop
 | .normal,_,W'=>(∀k,Z k->W'.heap[k]?=W.heap[k]?)/\I xs W'
 | .ret,_,W'=>(∀k,Z k->W'.heap[k]?=W.heap[k]?)/\Ix .ret xs W'
 | .exit id,_,W'=>(∀k,Z k->W'.heap[k]?=W.heap[k]?)/\Ix (.exit id) xs W'
 | .goto t,_,W'=>(∀k,Z k->W'.heap[k]?=W.heap[k]?)/\Ix (.goto t) xs W'
 | _,_,_=>False
theorem wL {X:Nat->Prop}(W:World)(l:Nat)(o:Obj)(hX:X l):Kept X W (W.putObj l o) :=
 ⟨rfl,rfl,rfl,by simp,λk _ hk=>World.putObj_heap_other (λe=>hk (by rw[e];exact hX))⟩
def Iter (P:Program)(n:Nat){α:Type}(gf:Nat)(lb:Array Value)(encs:α->Array Value)(B Z:Nat->Prop)(S Sp:List α->Prop)(A:List α->α->Prop)(w:World):Prop :=
 ∀(l:Nat) (J Jx:List α->World->Prop) (W:World),(∀k,k<w.heap.size->W.heap[k]?=w.heap[k]?)->w.heap.size<=W.heap.size->(∀s A A',J s A->Kept B A A'->J s A')->(∀s A A',Jx s A->Kept B A A'->Jx s A') ->
  (∀pre x W1,J pre W1->A pre x->YieldAt Fence.wide n P l (encs x) W1 λe W' =>
   (e=.returned (.bool true)/\J (pre++[x]) W'/\(∀k,Z k->W'.heap[k]?=W1.heap[k]?)/\W1.heap.size<=W'.heap.size)\/(e=.returned (.bool false)/\Jx (pre++[x]) W')) ->
  J [] W->CallsIn Fence.wide n P gf (#[.func (.yield l) #[] #[]]++lb) W λe W'=>(∃v,e=.returned v)/\((∃xs,S xs/\J xs W')\/(∃pre,Sp pre/\Jx pre W'))
theorem aC6 {α:Type}{g:Operand}{ps:Array Tmp}{assign body:Code}{Q:Exit->Act->World->Prop}{a:Act}{w:World}{gf:Nat}{lb:Array Value}(hg:a.eval g=.func (.func gf) #[] lb)(eg:∀args w,(callFunc gf args).run P w=.ok (.enter gf args) w)
  {encs:α->Array Value} (oM:∀x,(encs x).size=ps.size) {B Z:Nat->Prop} {S Sp:List α->Prop} {A:List α->α->Prop} (hB:∀k,B k->k<w.heap.size) (hZ:∀k,Z k->k<w.heap.size) (aB9:Iter P (n-1) gf lb encs B Z S Sp A w)
  (I:List α->World->Prop) (Ix:Code->List α->World->Prop) (hI:∀s W W',I s W->Kept (λk=>B k\/k=w.heap.size\/k=w.heap.size+1) W W'->I s W') (hIx:∀c s W W',Ix c s W->Kept (λk=>B k\/k=w.heap.size\/k=w.heap.size+1) W W'->Ix c s W') (h0:I [] w) (a₁:α->Act)
  (Cz:∀(x:α) (W:World) (K:Act->World->Prop),K (a₁ x) W ->
   assign.wpIn (xP (some (w.heap.size+1))) (n-1) P (Exit.then K (λ_ _ _=>False)) { tmps:=(ps.zip (encs x)).foldl (λt (p,v)=>t.setIfInBounds p v) a.tmps,defers:=[] } W)
  (rH:∀(pre:List α) (x:α) (W:World),I pre W->A pre x->w.heap.size+1<W.heap.size->body.wpIn (xP (some (w.heap.size+1))) (n-1) P (λe a' W'=>W.heap.size<=W'.heap.size/\yf (λk=>Z k\/k=w.heap.size\/k=w.heap.size+1) I Ix (pre++[x]) W e a' W') (a₁ x) W)
  (An:∀(xs:List α) (W:World),S xs->I xs W->W.heap[w.heap.size]?=some (.deferred (some []))->Q .normal { a with defers:={ target:=.collected w.heap.size,args:=#[] }::a.defers } W)
  (xj:∀(c:Code) (pre:List α) (W:World),Sp pre->Ix c pre W->W.heap[w.heap.size]?=some (.deferred (some []))->c.wpIn Fence.wide n P Q { a with defers:={ target:=.collected w.heap.size,args:=#[] }::a.defers } W) :
  (Code.rangeFunc g ps assign body).wpIn Fence.wide n P Q a w:=by
 refine wpIn_rangeFunc ?_;intro fn _;have xi:∃rec:LoopState->Option Code->Loop,rec=λst pe=>{ state:=st,pending:=pe,fn,tmps:=a.tmps,params:=ps,assign,body,defers:=w.heap.size }:=⟨_,rfl⟩;obtain⟨rec,xi⟩:=xi;have hg1:∃W1,(w.alloc (.deferred (some []))).alloc (.loop (rec .ready none))=W1:=⟨_,rfl⟩;obtain⟨W1,SU⟩:=hg1;have sT:W1.heap.size=w.heap.size+1+1:=by rw[<-SU];simp
 have hL1:W1.heap[w.heap.size+1]?=some (.loop (rec .ready none)):=by
  rw[<-SU]
  have:=World.alloc_heap_new (w.alloc (.deferred (some []))) (.loop (rec .ready none));rwa [World.size_alloc]at this
 have hK1:W1.heap[w.heap.size]?=some (.deferred (some [])):=by
  rw[<-SU];exact(Below.heap_alloc _ _ _ (by simp)).trans (World.alloc_heap_new w _)
 have Ps:∀k,k<w.heap.size->W1.heap[k]?=w.heap[k]?:=λk hk=>by
  rw[<-SU];exact(Below.heap_alloc _ _ _ (by simp;omega)).trans (Below.heap_alloc _ _ _ hk)
 have Kx:Kept (λk=>B k\/k=w.heap.size\/k=w.heap.size+1) w W1:=⟨by rw[<-SU];rfl,by rw[<-SU];rfl,by rw[<-SU];rfl,by omega,λk hk _=>Ps k hk⟩;have x8:∀{W:World} (o:Obj),Kept (λk=>B k\/k=w.heap.size\/k=w.heap.size+1) W (W.putObj (w.heap.size+1) o):=λo=>wL _ _ _ (.inr (.inr rfl));have dA:∀{k:Nat},B k->k≠w.heap.size/\k≠w.heap.size+1:=λ{k} hk=>by have:=hB k hk;omega
 refine⟨w.heap.size+1,[{ target:=.collected w.heap.size,args:=#[] }],W1,{ target:=.fn (.func gf) lb,args:=#[.func (.yield (w.heap.size+1)) #[] #[]] },W1,gf,
  #[.func (.yield (w.heap.size+1)) #[] #[]]++lb,W1,?_,?_,λ_ _=>trivial,?_,(λhh=>by cases hh),?_⟩
 ·rw[<-SU,xi];exact run_enterLoop_outer _ _ _ _ _
 ·simp only[resolve,hg];simp[go_sem]
 ·simp[invoke,go_sem,eg]
 refine(aB9 (w.heap.size+1)
  (λpre W=>I pre W/\W.heap[w.heap.size+1]?=some (.loop (rec .ready none))/\W.heap[w.heap.size]?=some (.deferred (some [])))
  (λpre W=>∃c,Ix c pre W/\W.heap[w.heap.size+1]?=some (.loop (rec .done (some c)))/\W.heap[w.heap.size]?=some (.deferred (some [])))
  W1 Ps (by omega) ?_ ?_ ?_ ⟨hI _ _ _ h0 Kx,hL1,hK1⟩).mono ?_
 ·rintro s A A' ⟨h1,h2,h3⟩ hk;exact⟨hI _ _ _ h1 (hk.weaken (λi _ h=>.inl h)),(hk.block _ (Array.getElem?_eq_some_iff.1 h2).1 (λh=>(dA h).2 rfl)).trans h2,(hk.block _ (Array.getElem?_eq_some_iff.1 h3).1 (λh=>(dA h).1 rfl)).trans h3⟩
 ·rintro s A A' ⟨c,h1,h2,h3⟩ hk;exact⟨c,hIx _ _ _ _ h1 (hk.weaken (λi _ h=>.inl h)),(hk.block _ (Array.getElem?_eq_some_iff.1 h2).1 (λh=>(dA h).2 rfl)).trans h2,(hk.block _ (Array.getElem?_eq_some_iff.1 h3).1 (λh=>(dA h).1 rfl)).trans h3⟩
 ·rintro pre x W ⟨hi,hl,hk⟩ hlen;have bZ:w.heap.size+1<W.heap.size:=(Array.getElem?_eq_some_iff.1 hl).1;have hy:=run_yield (P:=P) (args:=encs x) hl (by rw[xi];exact oM x);rw[xi]at hy;refine⟨fn,_,assign,body,hy,roundIn_of_wpIn trivial (Cz x W _ ⟨_,run_beginRound hl (by rw[xi]),?_⟩)⟩;have hgV:∃V,W.putObj (w.heap.size+1) (.loop { rec .ready none with state:=.busy })=V:=⟨_,rfl⟩;obtain⟨V,hV⟩:=hgV;have hVl:V.heap[w.heap.size+1]?=some (.loop { rec .ready none with state:=.busy }):=by rw[<-hV];exact World.putObj_heap_same bZ
  have hVk:V.heap[w.heap.size]?=some (.deferred (some [])):=by rw[<-hV];exact(World.putObj_heap_other (by omega)).trans hk
  have hVs:V.heap.size=W.heap.size:=by rw[<-hV];simp
  have hVo:∀k,k≠w.heap.size+1->V.heap[k]?=W.heap[k]?:=λk h=>by rw[<-hV];exact World.putObj_heap_other h
  rw[hV];refine wpIn_mono (rH pre x V (by rw[<-hV];exact hI _ _ _ hi (x8 _)) hlen (by omega)) ?_;have fin:∀(jump:Option Code) (W3:World),V.heap.size<=W3.heap.size->(∀k,Z k\/k=w.heap.size\/k=w.heap.size+1->W3.heap[k]?=V.heap[k]?) ->
    (Instr.endRound (w.heap.size+1) jump).run P W3=.ok (.bool jump.isNone) (W3.putObj (w.heap.size+1) (.loop (rec (if jump.isNone then .ready else .done) jump))) /\
    (W3.putObj (w.heap.size+1) (.loop (rec (if jump.isNone then .ready else .done) jump))).heap[w.heap.size+1]?=some (.loop (rec (if jump.isNone then .ready else .done) jump)) /\
    (W3.putObj (w.heap.size+1) (.loop (rec (if jump.isNone then .ready else .done) jump))).heap[w.heap.size]?=some (.deferred (some [])) /\
    ∀k,Z k->(W3.putObj (w.heap.size+1) (.loop (rec (if jump.isNone then .ready else .done) jump))).heap[k]?=W.heap[k]?:=λjump W3 nZ JU=>by
   have hl3:=(JU _ (.inr (.inr rfl))).trans hVl;have hr:=run_endRound (P:=P) jump hl3;rw[xi]at hr ⊢
   refine⟨hr,World.putObj_heap_same (by omega),(World.putObj_heap_other (by omega)).trans ((JU _ (.inr (.inl rfl))).trans hVk),λk hk=>?_⟩
   have:=hZ k hk;exact(World.putObj_heap_other (by omega)).trans ((JU k (.inl hk)).trans (hVo k (by omega)))
  rintro e a3 W3 ⟨nZ,hp⟩;cases e with
  | normal =>
   obtain⟨JU,hi3⟩:=hp;obtain⟨hr,Vx,XY,xq⟩:=fin none W3 nZ JU;exact⟨_,_,hr,.inl ⟨rfl,⟨hI _ _ _ hi3 (x8 _),Vx,XY⟩,xq,by simp;omega⟩⟩
  | ret =>
   obtain⟨JU,hi3⟩:=hp;obtain⟨hr,Vx,XY,xq⟩:=fin (some .ret) W3 nZ JU;exact⟨_,_,hr,.inr ⟨rfl,.ret,hIx _ _ _ _ hi3 (x8 _),Vx,XY⟩⟩
  | exit id =>
   obtain⟨JU,hi3⟩:=hp;obtain⟨hr,Vx,XY,xq⟩:=fin (some (.exit id)) W3 nZ JU;exact⟨_,_,hr,.inr ⟨rfl,.exit id,hIx _ _ _ _ hi3 (x8 _),Vx,XY⟩⟩
  | goto t =>
   obtain⟨JU,hi3⟩:=hp;obtain⟨hr,Vx,XY,xq⟩:=fin (some (.goto t)) W3 nZ JU;exact⟨_,_,hr,.inr ⟨rfl,.goto t,hIx _ _ _ _ hi3 (x8 _),Vx,XY⟩⟩
  | panic ch=>exact hp.elim
  | outgrown=>exact hp.elim
 rintro e W2 ⟨⟨v,rfl⟩,(⟨xs,hS,hi,hl,hk⟩|⟨pre,hSp,c,hi,hl,hk⟩)⟩
 ·have hr:=run_endLoop (P:=P) hl (by rw[xi];simp);rw[xi]at hr;exact⟨none,_,hr,An xs _ hS (hI _ _ _ hi (x8 _)) ((World.putObj_heap_other (by omega)).trans hk)⟩
 have hr:=run_endLoop (P:=P) hl (by rw[xi];simp);rw[xi]at hr;exact⟨some c,_,hr,xj c pre _ hSp (hIx _ _ _ _ hi (x8 _)) ((World.putObj_heap_other (by omega)).trans hk)⟩
theorem LX {c:Code}(hp:j9 c=true){Q:Exit->Act->World->Prop}{t:Fr}{w:World}(h:vc P c (λe t w=>Q e ⟨t.toArray,ds⟩ w) t w .mk):c.wpIn (xP ro) n P Q ⟨t.toArray,ds⟩ w :=
 wpIn_mono (lV c hp _ t w h) (by rintro e a w' ⟨hd,hh⟩;rw[mY hd];exact hh)
theorem mI {a b:Code}(hp:j9 a=true){Q:Exit->Act->World->Prop}{t:Fr}{w:World}(h:vc P a (np (λt w=>b.wpIn (xP ro) n P Q ⟨t.toArray,ds⟩ w) (λe t w=>Q e ⟨t.toArray,ds⟩ w) .mk) t w .mk):(Code.seq a b).wpIn (xP ro) n P Q ⟨t.toArray,ds⟩ w:=by
 refine wpIn_seq (wpIn_mono (lV a hp _ t w h) ?_);rintro e a' w' ⟨hd,hh⟩;cases e<;>simp only[np]at hh<;>simp only[Exit.then]<;>(rw[mY hd];exact hh)
theorem OS {m m' l:Nat}{f:FuncId}{tmps:Array Value}{assign body:Code}{w:World}{R:Ending->World->Prop}(h:RoundIn Fence.wide m P l f tmps assign body w R):RoundIn (xP none) m' P l f tmps assign body w R :=
 ⟨trivial,λc cs _=>h.2 c cs (room_wide _)⟩
theorem vT {id l m:Nat}{l1 l2:List Oper}{o:Oper}{x:Operand}{args:Array Operand}{ats:Array TypeId}{Q:Exit->Act->World->Prop}{t:Fr}{w:World}(NO:l1.all lS=true)(NP:l2.all lS=true)(ho:o.op=.call { callee:=.value x,args,argTypes:=ats })(hg:o.guard=none)
  (h:aW P (l1++o::l2) (λt w=>ev t x=.func (.yield l) #[] #[]/\∃R,YieldAt Fence.wide m P l (args.toList.map (ev t)).toArray w R/\∀e w',R e w'->∃b,e=.returned (.bool b)/\aW P (l1++o::l2) (λt w=>Q .normal ⟨t.toArray,ds⟩ w) (λe t w=>Q e ⟨t.toArray,ds⟩ w) l2 (put t o.dst (.bool b)) w' .mk) (λe t w=>Q e ⟨t.toArray,ds⟩ w) l1 t w .mk) :
  (Code.region id (l1++o::l2).toArray false).wpIn (xP none) n P Q ⟨t.toArray,ds⟩ w:=by
 refine wpIn_region_list ?_;rw[List.toList_toArray];refine mN (ro:=none) (o::l2) ?_ (λe a w hh=>by rw[mY hh.1];exact hh.2) l1 NO t w h;rintro t1 w1 ⟨hx,R,⟨fn,tmps,assign,body,hy,hR⟩,hk⟩;unfold wpListIn;rw[if_pos (by simp[Region.wanted,hg])];refine⟨λ_ _=>trivial,?_⟩;rw[BO (by simp[lS,ho]),ln];have he:(execOp (ev t1) o).run P w1=.ok (.round l fn tmps assign body) w1:=by
  unfold execOp;simp only[ho];have hy':(Instr.yield l (args.map (ev t1))).run P w1=.ok (.round l fn tmps assign body) w1:=by rw[show args.map (ev t1)=(args.toList.map (ev t1)).toArray by rw[<-Array.toList_map]];exact hy
  simp[resolve,hx,invoke,go_sem,hy']
 rw[he];refine⟨(λhh=>by cases hh),(OS hR).mono λe w' hr=>?_⟩;obtain⟨b,rfl,hb⟩:=hk e w' hr
 show wpListIn _ _ _ _ _ _ _ _
 rw[iR]
 have:=mN (P:=P) (n:=n) (ro:=none) (ds:=ds) (ops:=l1++o::l2) (next:=Q) [] (λt w hh=>hh) (λe a w hh=>by rw[mY hh.1];exact hh.2) l2 NP _ w' hb
 simpa using this
theorem aCE {c:Code}{Q:Exit->Act->World->Prop}{t:Fr}{w:World}(M:List Nat)(I:(Nat->Value)->World->Prop)(μ:(Nat->Value)->World->Nat)(h0:I (at_ t) w)
  (hr:∀z w',I z w'->c.wpIn (xP ro) n P (λe a' ar=>match e with|.normal=>a'.defers=ds/\a'.tmps.toList=ov t M (at_ a'.tmps.toList)/\I (at_ a'.tmps.toList) ar/\μ (at_ a'.tmps.toList) ar<μ z w'|e=>Q e a' ar) ⟨(ov t M z).toArray,ds⟩ w'):(Code.loop c).wpIn (xP ro) n P Q ⟨t.toArray,ds⟩ w:=by
 refine wpIn_loop (λa w'=>a.defers=ds/\a.tmps.toList=ov t M (at_ a.tmps.toList)/\I (at_ a.tmps.toList) w') (λa w'=>μ (at_ a.tmps.toList) w') ⟨rfl,by simp[UO],by simpa using h0⟩ ?_;rintro a w' ⟨hd,ht,hI⟩;have h1:=hr _ w' hI;rw[<-ht]at h1;rw[mY hd];refine wpIn_mono h1 ?_;intro e a' ar hh;cases e<;>simp only[Exit.then]<;>first|exact hh|skip
 obtain⟨Zm,h1,h2,h3⟩:=hh;exact⟨⟨Zm,h1,h2⟩,by simpa using h3⟩
theorem aCA {fn:Func}{rs:List ResultVar}{R:VK}(fO:fn.results=rs.toArray){t:Fr}{w:World}(h:Gz P rs R .mk .ret t w):bodyPostM Fence.wide n P fn (λe w'=>∃v,e=.returned v/\R v w') .ret ⟨t.toArray,[]⟩ w:=by
 obtain⟨vs,hv,hk⟩:=dL fn rs fO t _ h;exact⟨_,hv,_,rfl,hk⟩
theorem aCB {fn:Func}{rs:List ResultVar}{R:VK}(fO:fn.results=rs.toArray){t:Fr}{w:World}{D:Nat}(hD:w.heap[D]?=some (.deferred (some [])))(h:Gz P rs R .mk .ret t (w.putObj D (.deferred none))):bodyPostM Fence.wide n P fn (λe w'=>∃v,e=.returned v/\R v w') .ret ⟨t.toArray,[{ target:=.collected D,args:=#[] }]⟩ w:=by
 obtain⟨vs,hv,hk⟩:=dL fn rs fO t _ h;exact⟨by simp,.inl ⟨_,_,rfl,run_takeDeferred hD,_,hv,_,rfl,hk⟩⟩
theorem Mt {f:FuncId}{fn:Func}{c:Code}{args:List Value}{w:World}{R:VK}(hf:P.funcs[f]?=some fn)(hb:fn.body=some c)(hn:(fn.name == "runtime.NumGoroutine")=false)
  (h:c.wpIn (xP none) 0 P (bodyPostM Fence.wide 0 P fn (λe w'=>∃v,e=.returned v/\R v w')) ⟨(sq args fn.ntmps).toArray,[]⟩ w):bD P f args w R:=by
 refine⟨cR hf (by simp[hb]) hn,(callsIn_wide (n:=0)).1 (callsIn_of_wp_marks hf hb trivial ?_ rfl)⟩;have e:(args.toArray++Array.replicate (fn.ntmps-args.toArray.size) undef)=(sq args fn.ntmps).toArray:=by simp[sq]
 rw[e];exact h
theorem RL {F:Fence}{c:Operand}{x y:Code}{Q:Exit->Act->World->Prop}{t:Fr}{w:World}(hc:ev t c=.bool false)(h:y.wpIn F n P Q ⟨t.toArray,ds⟩ w):(Code.cond c x y).wpIn F n P Q ⟨t.toArray,ds⟩ w :=
 wpIn_cond_false (by rw[ln];exact hc) h
theorem Z6 {F:Fence}{c:Operand}{x y:Code}{Q:Exit->Act->World->Prop}{t:Fr}{w:World}(hc:ev t c=.bool true)(h:x.wpIn F n P Q ⟨t.toArray,ds⟩ w):(Code.cond c x y).wpIn F n P Q ⟨t.toArray,ds⟩ w :=
 wpIn_cond_true (by rw[ln];exact hc) h
theorem aDo {K:Act->World->Prop}{Q:Exit->Act->World->Prop}{a:Act}{w:World}:Exit.then K Q .normal a w=K a w:=(rfl)
theorem aDp {K:Act->World->Prop}{Q:Exit->Act->World->Prop}{a:Act}{w:World}:Exit.then K Q .ret a w=Q .ret a w:=(rfl)
theorem aDn {K:Act->World->Prop}{Q:Exit->Act->World->Prop}{a:Act}{w:World}(i:Nat):Exit.then K Q (.exit i) a w=Q (.exit i) a w:=(rfl)
theorem NZ {i:Nat}{Q:Exit->Act->World->Prop}{a:Act}{w:World}:Exit.inBlock i Q .normal a w=Q .normal a w:=(rfl)
theorem N0 {i:Nat}{Q:Exit->Act->World->Prop}{a:Act}{w:World}:Exit.inBlock i Q .ret a w=Q .ret a w:=(rfl)
theorem NY {i j:Nat}{Q:Exit->Act->World->Prop}{a:Act}{w:World}:Exit.inBlock i Q (.exit j) a w=if j=i then Q .normal a w else Q (.exit j) a w:=(rfl)
theorem aL1 (p:Tmp)(v:Value)(t:Fr):((#[p]:Array Tmp).zip #[v]).foldl (λt (x:Tmp×Value)=>t.setIfInBounds x.1 x.2) t.toArray=(t.set p v).toArray:=by
 simp
theorem Ul {α:Type}{Z:Nat->Prop}{I:List α->World->Prop}{Ix:Code->List α->World->Prop}{xs:List α}{W W':World}{a:Act}:yf Z I Ix xs W .normal a W'=((∀k,Z k->W'.heap[k]?=W.heap[k]?)/\I xs W'):=(rfl)
theorem Um {α:Type}{Z:Nat->Prop}{I:List α->World->Prop}{Ix:Code->List α->World->Prop}{xs:List α}{W W':World}{a:Act}:yf Z I Ix xs W .ret a W'=((∀k,Z k->W'.heap[k]?=W.heap[k]?)/\Ix .ret xs W'):=(rfl)
theorem Uk {α:Type}{Z:Nat->Prop}{I:List α->World->Prop}{Ix:Code->List α->World->Prop}{xs:List α}{W W':World}{a:Act}(i:Nat):yf Z I Ix xs W (.exit i) a W'=((∀k,Z k->W'.heap[k]?=W.heap[k]?)/\Ix (.exit i) xs W'):=(rfl)
theorem aC7 {α:Type}{g:Operand}{q:Tmp}{assign body:Code}{Q:Exit->Act->World->Prop}{t:Fr}{w:World}{gf:Nat}{lb:List Value}(hg:ev t g=.func (.func gf) #[] lb.toArray)(eg:∀args w,(callFunc gf args).run P w=.ok (.enter gf args) w)
  {en:α->Value} {B Z:Nat->Prop} {S Sp:List α->Prop} {A:List α->α->Prop} (hB:∀k,B k->k<w.heap.size) (hZ:∀k,Z k->k<w.heap.size) (aB9:Iter P (n-1) gf lb.toArray (λx=>#[en x]) B Z S Sp A w)
  (I:List α->World->Prop) (Ix:Code->List α->World->Prop) (hI:∀s W W',I s W->Kept (λk=>B k\/k=w.heap.size\/k=w.heap.size+1) W W'->I s W') (hIx:∀c s W W',Ix c s W->Kept (λk=>B k\/k=w.heap.size\/k=w.heap.size+1) W W'->Ix c s W') (h0:I [] w) (d:Nat)
  (pa:j9 assign=true) (pb:j9 body=true) (Cz:∀(x:α) (W:World),vc P assign (λe t' W'=>e=.normal/\t'=((t.set q (en x)).set d (en x))/\W'=W) (t.set q (en x)) W .mk)
  (rH:∀(pre:List α) (x:α) (W:World),I pre W->A pre x->w.heap.size+1<W.heap.size->vc P body (λe t' W'=>W.heap.size<=W'.heap.size/\yf (λk=>Z k\/k=w.heap.size\/k=w.heap.size+1) I Ix (pre++[x]) W e ⟨t'.toArray,[]⟩ W') (((t.set q (en x)).set d (en x))) W .mk)
  (An:∀(xs:List α) (W:World),S xs->I xs W->W.heap[w.heap.size]?=some (.deferred (some []))->Q .normal ⟨t.toArray,{ target:=.collected w.heap.size,args:=#[] }::ds⟩ W)
  (xj:∀(c:Code) (pre:List α) (W:World),Sp pre->Ix c pre W->W.heap[w.heap.size]?=some (.deferred (some []))->c.wpIn (xP none) n P Q ⟨t.toArray,{ target:=.collected w.heap.size,args:=#[] }::ds⟩ W) :
  (Code.rangeFunc g #[q] assign body).wpIn (xP none) n P Q ⟨t.toArray,ds⟩ w:=by
 refine aC6 (a:=⟨t.toArray,ds⟩) (by rw[ln];exact hg) eg (encs:=λx=>#[en x]) (λ_=>rfl) hB hZ aB9 I Ix hI hIx h0 (λx=>⟨((t.set q (en x)).set d (en x)).toArray,[]⟩) ?_ ?_ An xj
 ·intro x W K hK;have e:(((#[q]:Array Tmp).zip #[en x]).foldl (λt (x:Tmp×Value)=>t.setIfInBounds x.1 x.2) t.toArray)=(t.set q (en x)).toArray:=aL1 q (en x) t
  show assign.wpIn _ _ _ _ ⟨(((#[q]:Array Tmp).zip #[en x]).foldl (λt (x:Tmp×Value)=>t.setIfInBounds x.1 x.2) t.toArray),[]⟩ _
  rw[e];refine wpIn_mono (lV (ds:=[]) assign pa _ _ _ (Cz x W)) ?_;rintro e a w' ⟨hd,rfl,ht,rfl⟩
  show K a w'
  rw[mY hd,ht];exact hK
 intro pre x W h1 h2 h3;refine wpIn_mono (lV (ds:=[]) body pb _ _ _ (rH pre x W h1 h2 h3)) ?_;rintro e a w' ⟨hd,h4,h5⟩;refine⟨h4,?_⟩;rw[mY hd];exact h5
end
attribute [push_cast] aDo aDp aDn NZ N0 NY Ul Um Uk
end Go.Vc
end
section
namespace Go.Proofs.YtodeeahdhnjpkaaGreatDoor
open Go.Vc Go.Proofs Go.RowKit Cae
attribute [local irreducible] cw ag aq a8 runK bD Sl Vc.Own vc aW cN ai
theorem KK (s:List UInt8)(c:UInt8)(w:World):bD Tryz.prog 193 [str s,str [c],.int .i64 0] w λr w'=>r=.func (.func 224) #[] #[.pointer (some ⟨w.heap.size+1,0,none⟩),.pointer (some ⟨w.heap.size,0,none⟩),.pointer (some ⟨w.heap.size+2,0,none⟩)]/\aO w' w.heap.size 9 [str s]/\aO w' (w.heap.size+1) 9 [str [c]]/\aO w' (w.heap.size+2) 3 [.int .i64 0]/\w'.heap.size=w.heap.size+3/\Below w.heap.size w w':=by
 refine aE Tryz.func193 rfl (by kernel_rfl) [6] rfl ?_;push_cast -dsimp(maxSteps:=4000000) [Tryz.ntmps193];refine ah ?_;intro w1 au;have sT:=au.size;push_cast -dsimp;refine ah ?_;intro w2 bT;have KN:=bT.size;push_cast -dsimp;refine ah ?_;intro w3 bO;have Li:=bO.size;push_cast -dsimp[sT,KN];have b1:=(au.aN.below bT.below (by omega)).below bO.below (by omega);have b2:=bT.aN.below bO.below (by omega);have b3:=bO.aN;rw[sT]at b2;rw[KN,sT]at b3;exact⟨b1,b2,b3,by omega,(au.below.trans (bT.below.mono (by omega))).trans (bO.below.mono (by omega))⟩
theorem HS (s:List UInt8)(c:UInt8)(w:World):bD Tryz.prog 162 [str s,str [c]] w λr w'=>r=.func (.func 224) #[] #[.pointer (some ⟨w.heap.size+1,0,none⟩),.pointer (some ⟨w.heap.size,0,none⟩),.pointer (some ⟨w.heap.size+2,0,none⟩)]/\aO w' w.heap.size 9 [str s]/\aO w' (w.heap.size+1) 9 [str [c]]/\aO w' (w.heap.size+2) 3 [.int .i64 0]/\w'.heap.size=w.heap.size+3/\Below w.heap.size w w':=by
 refine aE Tryz.func162 rfl (by kernel_rfl) [4] rfl ?_;push_cast -dsimp(maxSteps:=4000000) [Tryz.ntmps162];refine aA (KK s c w) ?_;rintro _ w1 ⟨rfl,h⟩;push_cast -dsimp;exact h
def Ud (w:World)(b:Nat):Nat:=match w.cell? ⟨b,0,none⟩ with|some (.string s)=>s.size|_=>0
theorem Gx {w:World}{b:Nat}{s:List UInt8}(h:w.cell? ⟨b,0,none⟩=some (str s)):Ud w b=s.length:=by
 unfold Ud;rw[h];rfl
theorem VD (s:List UInt8)(c:UInt8)(hs:s.length<=1000000000)(n bs bp bv:Nat)(qV:bs≠bp)(h2':bs≠bv)(w:World)(hS:aO w bs 9 [str s])(hP:aO w bp 9 [str [c]])(hV:aO w bv 3 [.int .i64 0]) :
  Iter Tryz.prog n 224 #[.pointer (some ⟨bp,0,none⟩),.pointer (some ⟨bs,0,none⟩),.pointer (some ⟨bv,0,none⟩)] (λx:List UInt8=>#[str x]) (λk=>k=bs) (λk=>k=bs\/k=bp\/k=bv) (λxs=>xs=splitB c s) (λpre=>pre <+: splitB c s) (λpre x=>pre++[x] <+: splitB c s) w:=by
 intro l J Jx W hW hWs hJ hJx hY h0;have hS:aO W bs 9 [str s]:=(hW _ hS.lt).trans hS;have hP:aO W bp 9 [str [c]]:=(hW _ hP.lt).trans hP;have hV:aO W bv 3 [.int .i64 0]:=(hW _ hV.lt).trans hV;refine callsIn_of_wp Tryz.func224 rfl trivial ?_ rfl;have c0:W.cell? ⟨bp,0,none⟩=some (str [c]):=hP.cell rfl;simp only[Tryz.ntmps224,List.size_toArray,List.length_cons,List.length_nil,Nat.reduceAdd,Nat.reduceSub,Array.replicate_succ,Array.replicate_zero,List.push_toArray,List.append_toArray,List.nil_append,List.cons_append];refine wpIn_seq (mI (ro:=none) (by rfl) ?_);push_cast -dsimp[c0];refine RL (by rfl) (wpIn_skip ?_);push_cast -dsimp;refine wpIn_seq (wpIn_block (aCE (ro:=none) [7,8,29,30,31,32,33,34,35,36,37,38,39,40,41,42,43,44,45,46,47,48] (λz wx=>∃pre rest,pre++splitB c rest=splitB c s/\J pre wx/\aO wx bs 9 [str rest]/\aO wx bp 9 [str [c]]/\aO wx bv 3 [.int .i64 0]/\rest.length<=s.length) (λ_ wx=>Ud wx bs) ?_ ?_))
 ·exact⟨[],s,rfl,h0,hS,hP,hV,Nat.le_refl _⟩
 intro z wx hI;obtain⟨pre,rest,qv,hj,hS,hP,hV,Zu⟩:=hI;have hrd:=Gx (hS.cell (o:=0) rfl);have cS:wx.cell? ⟨bs,0,none⟩=some (str rest):=hS.cell rfl;have cP:wx.cell? ⟨bp,0,none⟩=some (str [c]):=hP.cell rfl;have cV:wx.cell? ⟨bv,0,none⟩=some (.int .i64 0):=hV.cell rfl;have GN:=qb c rest;refine wpIn_block (mI (ro:=none) (by rfl) ?_);push_cast -dsimp[cS,cP];refine aA (Kz rest c wx) ?_;rintro _ w1 ⟨rfl,rfl⟩;rw[mf];push_cast -dsimp;refine mI (ro:=none) (by rfl) ?_;have fin:∀(x:Exit) (t:Fr) (w2:World),(x=.normal\/x=.ret)->((∃xs,xs=splitB c s/\J xs w2)\/∃pre,pre <+: splitB c s/\Jx pre w2)->bodyPost Tryz.prog Tryz.f224 (λe W'=>(∃v,e=.returned v)/\((∃xs,xs=splitB c s/\J xs W')\/∃pre,pre <+: splitB c s/\Jx pre W')) x ⟨t.toArray,[]⟩ w2:=λx t w2 hx hh=>by
  obtain⟨vs,h1,_⟩:=dL (P:=Tryz.prog) (w:=w2) Tryz.f224 [] (by rfl) t (λ_=>True) trivial;rcases hx with rfl|rfl<;>exact⟨rfl,_,h1,⟨_,rfl⟩,hh⟩
 cases hc:rest.contains c with
 | false =>
  simp only[Bool.false_eq_true,if_false];push_cast -dsimp;have tB:splitB c rest=[rest]:=by rw[GN,hc,KT hc];rfl
  rw[tB]at qv;have hy:=hY pre rest w1 hj (by show pre++[rest] <+: _;rw[qv];exact List.prefix_refl _)
  refine vT (l:=l) (m:=n) (l1:=[_,_]) (l2:=[]) (by rfl) (by rfl) (by rfl) (by rfl) ?_;push_cast -dsimp[cS];refine⟨_,hy,?_⟩;rintro e w2 hr;rcases hr with ⟨rfl,h1,_,_⟩|⟨rfl,h1⟩
  ·refine⟨true,rfl,?_⟩;exact fin .normal _ _ (.inl rfl) (.inl ⟨_,qv,h1⟩)
  refine⟨false,rfl,?_⟩;exact fin .normal _ _ (.inl rfl) (.inr ⟨_,by rw[qv];exact List.prefix_refl _,h1⟩)
 | true =>
  simp only[if_true];have bZ:=Lm hc;rw[hc,if_pos rfl]at GN;have hg:∃k,(rest.takeWhile (· != c)).length=k:=⟨_,rfl⟩;obtain⟨k,hk⟩:=hg;have h1:rest.takeWhile (· != c)=rest.take k:=by rw[<-hk];exact(wR _ rest).symm
  have h2:(rest.dropWhile (· != c)).drop 1=rest.drop (k+1):=by rw[<-CH,List.drop_drop,hk]
  rw[h1,h2]at GN;rw[hk]at bZ ⊢
  have gh:decide ((k:Int)<0)=false:=decide_eq_false (by omega);have hy:=hY pre (rest.take k) w1 hj (by show pre++[rest.take k] <+: _;rw[<-qv,GN];exact⟨splitB c (rest.drop (k+1)),by simp⟩)
  push_cast -dsimp[gh];refine mI (ro:=none) (by rfl) ?_;push_cast -dsimp[cS,cV];have ek:((k:Int)+0).toNat=k:=by omega
  refine⟨by omega,by omega,?_⟩;rw[ek];refine wpIn_seq (wpIn_seq (vT (l:=l) (m:=n) (l1:=[_,_]) (l2:=[_]) (by rfl) (by rfl) (by rfl) (by rfl) ?_));push_cast -dsimp;refine⟨_,hy,?_⟩;rintro e w2 hr;have aB3:pre++[rest.take k] <+: splitB c s:=by rw[<-qv,GN];exact⟨splitB c (rest.drop (k+1)),by simp⟩
  rcases hr with ⟨rfl,h1,hz,Au⟩|⟨rfl,h1⟩
  ·refine⟨true,rfl,?_⟩;have hS2:aO w2 bs 9 [str rest]:=(hz _ (.inl rfl)).trans hS;have hP2:aO w2 bp 9 [str [c]]:=(hz _ (.inr (.inl rfl))).trans hP;have qX:aO w2 bv 3 [.int .i64 0]:=(hz _ (.inr (.inr rfl))).trans hV;have dS:w2.cell? ⟨bs,0,none⟩=some (str rest):=hS2.cell rfl;have dP:w2.cell? ⟨bp,0,none⟩=some (str [c]):=hP2.cell rfl;push_cast -dsimp;refine RL (by rfl) (wpIn_skip ?_);push_cast -dsimp;refine LX (ro:=none) (by rfl) ?_;push_cast -dsimp[dS,dP];have ek1:((k:Int)+1).toNat=k+1:=by omega
   refine⟨by omega,by omega,?_⟩;rw[ek1];refine aC hS2 (by simp) rfl ?_;intro w3 bO;have hP3:=hP2.kept bO.kept (λh=>qV h.symm);have Mx:=qX.kept bO.kept (λh=>h2' h.symm);have hS3:aO w3 bs 9 [str (rest.drop (k+1))]:=bO.aN;push_cast -dsimp;refine⟨⟨_,_,by rw[List.append_assoc,List.singleton_append,<-GN];exact qv,hJ _ _ _ h1 bO.kept,hS3,hP3,Mx,by rw[List.length_drop];omega⟩,?_⟩;rw[Gx (hS3.cell (o:=0) rfl),hrd,List.length_drop];omega
  refine⟨false,rfl,?_⟩;push_cast -dsimp;refine Z6 (by rfl) (wpIn_ret ?_);push_cast -dsimp;exact fin .ret _ _ (.inr rfl) (.inr ⟨_,aB3,h1⟩)
end Go.Proofs.YtodeeahdhnjpkaaGreatDoor
end
section
namespace Cae
theorem NH {n:Nat}(hn:n<4294967296):∃b r,fu n=b::r/\kO b=true:=by
 cases h:fu n with
 | nil=>exact absurd h (wE n)
 | cons b r=>exact⟨b,r,rfl,fG hn b (by rw[h];simp)⟩
end Cae
namespace Go.Proofs.YtodeeahdhnjpkaaGreatDoor
open Go.Vc Go.Proofs Go.RowKit Cae
attribute [local irreducible] cw ag aq a8 runK bD Sl Vc.Own vc aW cN ai
def lZ (w:World):Prop:=(∃t p,w.cell? ⟨6,0,none⟩=some (.iface t p))/\(∃t p,w.cell? ⟨7,0,none⟩=some (.iface t p))
theorem lZ.below {w w':World}(h:lZ w)(hb:Below w.heap.size w w'):lZ w':=by
 obtain⟨⟨t,p,h1⟩,⟨t',p',h2⟩⟩:=h;exact⟨⟨t,p,(hb.cell (World.block_lt_of_cell? w _ h1)).trans h1⟩,⟨t',p',(hb.cell (World.block_lt_of_cell? w _ h2)).trans h2⟩⟩
def KO:Go.Shelf.Ren:=⟨λ| 245=>157|279=>186|280=>187|281=>188|282=>189|316=>215|171=>217|205=>216|243=>232|246=>190|283=>218|284=>219|285=>220|286=>221|129=>143|317=>233|318=>234|319=>235|320=>236|337=>240|338=>241|n=>n,λ| 9=>9|3=>3|75=>32|167=>259|4=>4|168=>262|210=>290|37=>142|0=>0|127=>306|145=>309|143=>307|2=>2|171=>292|53=>208|5=>5|173=>294|212=>311|51=>206|20=>20|213=>312|46=>109|232=>316|233=>317|80=>76|n=>n,λ| 15=>6|16=>7|17=>10|18=>11|19=>12|n=>n⟩
theorem VN:Go.Proofs.LaysC.n245 Tryz.prog KO:={
 mixed:=by kernel_rfl
 f129:=Tryz.func143.trans (congrArg some (by kernel_rfl))
 f171:=Tryz.func217.trans (congrArg some (by kernel_rfl))
 f205:=Tryz.func216.trans (congrArg some (by kernel_rfl))
 f243:=Tryz.func232.trans (congrArg some (by kernel_rfl))
 f245:=Tryz.func157.trans (congrArg some (by kernel_rfl))
 f246:=Tryz.func190.trans (congrArg some (by kernel_rfl))
 f279:=Tryz.func186.trans (congrArg some (by kernel_rfl))
 f280:=Tryz.func187.trans (congrArg some (by kernel_rfl))
 f281:=Tryz.func188.trans (congrArg some (by kernel_rfl))
 f282:=Tryz.func189.trans (congrArg some (by kernel_rfl))
 f283:=Tryz.func218.trans (congrArg some (by kernel_rfl))
 f284:=Tryz.func219.trans (congrArg some (by kernel_rfl))
 f285:=Tryz.func220.trans (congrArg some (by kernel_rfl))
 f286:=Tryz.func221.trans (congrArg some (by kernel_rfl))
 f316:=Tryz.func215.trans (congrArg some (by kernel_rfl))
 f317:=Tryz.func233.trans (congrArg some (by kernel_rfl))
 f318:=Tryz.func234.trans (congrArg some (by kernel_rfl))
 f319:=Tryz.func235.trans (congrArg some (by kernel_rfl))
 f320:=Tryz.func236.trans (congrArg some (by kernel_rfl))
 f337:=Tryz.func240.trans (congrArg some (by kernel_rfl))
 f338:=Tryz.func241.trans (congrArg some (by kernel_rfl))
 t0:=Tryz.underlying0
 a0:=Tryz.isAgg0
 z0:=Tryz.sizeOf0
 v0:=Tryz.zeroValue0
 t2:=Tryz.underlying2
 a2:=Tryz.isAgg2
 z2:=Tryz.sizeOf2
 v2:=Tryz.zeroValue2
 t3:=Tryz.underlying3
 a3:=Tryz.isAgg3
 z3:=Tryz.sizeOf3
 v3:=Tryz.zeroValue3
 t4:=Tryz.underlying4
 a4:=Tryz.isAgg4
 z4:=Tryz.sizeOf4
 v4:=Tryz.zeroValue4
 t5:=Tryz.underlying5
 a5:=Tryz.isAgg5
 z5:=Tryz.sizeOf5
 v5:=Tryz.zeroValue5
 t9:=Tryz.underlying9
 a9:=Tryz.isAgg9
 z9:=Tryz.sizeOf9
 v9:=Tryz.zeroValue9
 t20:=Tryz.underlying20
 a20:=Tryz.isAgg20
 z20:=Tryz.sizeOf20
 v20:=Tryz.zeroValue20
 t37:=Tryz.underlying142
 a37:=Tryz.isAgg142
 z37:=Tryz.sizeOf142
 v37:=Tryz.zeroValue142
 t46:=Tryz.underlying109
 a46:=Tryz.isAgg109
 z46:=Tryz.sizeOf109
 v46:=Tryz.zeroValue109
 t51:=Tryz.underlying206
 a51:=Tryz.isAgg206
 z51:=Tryz.sizeOf206
 v51:=Tryz.zeroValue206
 t53:=Tryz.underlying208
 a53:=Tryz.isAgg208
 z53:=Tryz.sizeOf208
 v53:=Tryz.zeroValue208
 t75:=Tryz.underlying32
 a75:=Tryz.isAgg32
 z75:=Tryz.sizeOf32
 v75:=Tryz.zeroValue32
 t127:=Tryz.underlying306
 a127:=Tryz.isAgg306
 z127:=Tryz.sizeOf306
 v127:=Tryz.zeroValue306
 t143:=Tryz.underlying307
 a143:=Tryz.isAgg307
 z143:=Tryz.sizeOf307
 v143:=Tryz.zeroValue307
 t145:=Tryz.underlying309
 a145:=Tryz.isAgg309
 z145:=Tryz.sizeOf309
 v145:=Tryz.zeroValue309
 t167:=Tryz.underlying259
 a167:=Tryz.isAgg259
 z167:=Tryz.sizeOf259
 v167:=Tryz.zeroValue259
 t168:=Tryz.underlying262
 a168:=Tryz.isAgg262
 z168:=Tryz.sizeOf262
 v168:=Tryz.zeroValue262
 t171:=Tryz.underlying292
 a171:=Tryz.isAgg292
 z171:=Tryz.sizeOf292
 v171:=Tryz.zeroValue292
 t173:=Tryz.underlying294
 a173:=Tryz.isAgg294
 z173:=Tryz.sizeOf294
 v173:=Tryz.zeroValue294
 t210:=Tryz.underlying290
 a210:=Tryz.isAgg290
 z210:=Tryz.sizeOf290
 v210:=Tryz.zeroValue290
 t212:=Tryz.underlying311
 a212:=Tryz.isAgg311
 z212:=Tryz.sizeOf311
 v212:=Tryz.zeroValue311
 t213:=Tryz.underlying312
 a213:=Tryz.isAgg312
 z213:=Tryz.sizeOf312
 t232:=Tryz.underlying316
 a232:=Tryz.isAgg316
 z232:=Tryz.sizeOf316
 v232:=Tryz.zeroValue316
 t233:=Tryz.underlying317
 a233:=Tryz.isAgg317
 z233:=Tryz.sizeOf317
 v233:=Tryz.zeroValue317
 g15:=by kernel_rfl
 g16:=by kernel_rfl
 g17:=by kernel_rfl
 g18:=by kernel_rfl
 g19:=by kernel_rfl
 t80:=Tryz.underlying76
 a80:=Tryz.isAgg76
 z80:=Tryz.sizeOf76
 v80:=Tryz.zeroValue76
 i0:=by kernel_rfl
 i2:=by kernel_rfl
 i3:=by kernel_rfl
 i4:=by kernel_rfl
 i5:=by kernel_rfl
 i9:=by kernel_rfl
 i20:=by kernel_rfl
 i37:=by kernel_rfl
 i46:=by kernel_rfl
 i51:=by kernel_rfl
 i53:=by kernel_rfl
 i75:=by kernel_rfl
 i80:=by kernel_rfl
 i127:=by kernel_rfl
 i143:=by kernel_rfl
 i145:=by kernel_rfl
 i167:=by kernel_rfl
 i168:=by kernel_rfl
 i171:=by kernel_rfl
 i173:=by kernel_rfl
 i210:=by kernel_rfl
 i212:=by kernel_rfl
 i232:=by kernel_rfl
 i233:=by kernel_rfl
 m15:=by kernel_rfl
 m16:=by kernel_rfl
 m17:=by kernel_rfl
 m18:=by kernel_rfl
 m19:=by kernel_rfl
 c0:=by kernel_rfl
 c2:=by kernel_rfl
 c3:=by kernel_rfl
 c4:=by kernel_rfl
 c5:=by kernel_rfl
 c9:=by kernel_rfl
 c20:=by kernel_rfl
 c37:=by kernel_rfl
 c46:=by kernel_rfl
 c51:=by kernel_rfl
 c53:=by kernel_rfl
 c75:=by kernel_rfl
 c80:=by kernel_rfl
 c127:=by kernel_rfl
 c143:=by kernel_rfl
 c145:=by kernel_rfl
 c167:=by kernel_rfl
 c168:=by kernel_rfl
 c171:=by kernel_rfl
 c173:=by kernel_rfl
 c210:=by kernel_rfl
 c212:=by kernel_rfl
 c213:=by kernel_rfl
 c232:=by kernel_rfl
 c233:=by kernel_rfl }
theorem Ll (f s:List UInt8)(base bits:Int)(k:Int)(hk:k=1\/k=2)(hs:s.length<=1000000000)(w:World)(h:lZ w):bD Tryz.prog 157 [str f,str s,.int .i64 base,.int .i64 bits,.iface 259 (.int .i64 k)] w λr w'=>(∃t p,r=.iface t p)/\Below w.heap.size w w':=by
 obtain⟨⟨t1,p1,h1⟩,⟨t2,p2,h2⟩⟩:=h;refine bx Tryz.func157 (by kernel_rfl) (by kernel_rfl) ?_;rcases hk with rfl|rfl
 ·refine Calls.mono (Any.strconv_toError_range VN ⟨f.toArray⟩ ⟨s.toArray⟩ base bits _ w (by show s.length<=_;omega) h2 (.inr ⟨_,_,rfl⟩)) ?_
  rintro e w' ⟨N,rfl,_,_,hb⟩;exact⟨_,rfl,⟨_,_,rfl⟩,hb⟩
 refine Calls.mono (Any.strconv_toError_syntax VN ⟨f.toArray⟩ ⟨s.toArray⟩ base bits _ w (by show s.length<=_;omega) h1 (.inr ⟨_,_,rfl⟩)) ?_
 rintro e w' ⟨N,rfl,_,_,hb⟩;exact⟨_,rfl,⟨_,_,rfl⟩,hb⟩
theorem Jr (bits:Int)(kM:bits=32\/bits=40)(s:List UInt8)(hs:s.length<=1000000000)(w:World):bD Tryz.prog 156 [str s,.int .i64 16,.int .i64 bits] w λr w'=>(∃(v:Int) (e:Value),r=.tuple #[.int .i64 v,e]/\aEF e/\(∀n<2147483648,s=fu n->v=n/\e=.nilIface))/\Below w.heap.size w w':=by
 refine aE Tryz.func156 rfl (by kernel_rfl) [6,7] rfl ?_;push_cast -dsimp(maxSteps:=4000000) [Tryz.ntmps156];by_cases dA:s=[]
 ·subst dA;have e0:decide (([]:List UInt8)=[])=true:=rfl;push_cast -dsimp(maxSteps:=4000000) [e0];refine⟨⟨0,_,rfl,.inr (.inr rfl),λn _ h=>absurd h.symm (wE n)⟩,Below.refl _ _⟩
 have hgc:∃c r,s=c::r:=List.exists_cons_of_ne_nil dA;obtain⟨c,r,rfl⟩:=hgc;have e0:decide (c::r=[])=false:=decide_eq_false dA;have eh:(c::r).getD 0 0=c:=rfl;have Au:(c::r).length=r.length+1:=rfl;have vh:∃b,c.toNat=b:=⟨_,rfl⟩;obtain⟨b,ti⟩:=vh;have qt:(b=43\/b=45)->∀n<2147483648,c::r≠fu n:=λh n hn hh=>by
  obtain⟨b',r',h1,h2⟩:=NH (n:=n) (by omega);rw[h1]at hh;cases hh;unfold kO at h2;rw[ti,Bool.or_eq_true,Bool.and_eq_true,Bool.and_eq_true,decide_eq_true_eq,decide_eq_true_eq,decide_eq_true_eq,decide_eq_true_eq]at h2;omega
 have ef:decide False=false:=rfl;have et:decide True=true:=rfl;have ed1:(c::r).drop (Int.toNat 1)=r:=rfl;push_cast -dsimp(maxSteps:=4000000) [eh,ti,ef,et,ed1];refine⟨by omega,λh43=>⟨by omega,?_⟩,λn43=>⟨λh45=>⟨by omega,?_⟩,λn45=>?_⟩⟩
 ·have gC:=qt (.inl (by omega));refine aA (qB bits kM r (by first|omega|exact hs) w) ?_
  rintro _ w1 ⟨⟨v,e,rfl,hv,he,hx⟩,hb⟩;have ql:∃ct:Nat,IntKind.u64.wrap (1*2 ^ min (IntKind.u64.wrap (bits-1)).toNat IntKind.u64.bits)=(ct:Int)/\2147483648<=ct/\ct<1099511627776:=by
   rcases kM with rfl|rfl
   ·exact⟨2147483648,by decide,by omega,by omega⟩
   exact⟨549755813888,by decide,by omega,by omega⟩
  obtain⟨ct,ql,aF4,aF5⟩:=ql;have ewv:IntKind.i64.wrap (v:Int)=(v:Int):=by rw[wrap_i64 (by omega)]
  rcases he with rfl|rfl|rfl
  ·push_cast -dsimp(maxSteps:=4000000) [ef,et];rw[ql];refine⟨λh=>by omega,λ_=>⟨by omega,by rcases kM with rfl|rfl<;>decide,λgh=>⟨⟨_,_,rfl,.inr (.inl rfl),λn hn h=>?_⟩,hb⟩,λbZ=>⟨⟨_,_,rfl,.inl rfl,λn hn h=>?_⟩,hb⟩⟩⟩
   ·first|exact absurd h (gC n hn)|(have:=(hx n (by omega) h).1;omega)
   first|exact absurd h (gC n hn)|(have:=(hx n (by omega) h).1;exact⟨by rw[ewv];omega,rfl⟩)
  ·push_cast -dsimp(maxSteps:=4000000) [ef,et];refine lW (te:=259) (k:=.i64) (q:=.i64) rfl rfl rfl Tryz.underlying32 (by kernel_rfl) (by kernel_rfl) ?_;have Rf:(!((1:Int) == 1))=false:=rfl;rw[Rf];push_cast -dsimp(maxSteps:=4000000) [ef,et];refine⟨λh=>by omega,λ_=>⟨by omega,by rcases kM with rfl|rfl<;>decide,λgh=>⟨⟨_,_,rfl,.inr (.inl rfl),λn hn h=>?_⟩,hb⟩,λbZ=>⟨⟨_,_,rfl,.inl rfl,λn hn h=>?_⟩,hb⟩⟩⟩
   ·first|exact absurd h (gC n hn)|(have:=(hx n (by omega) h).2;cases this)
   first|exact absurd h (gC n hn)|(have:=(hx n (by omega) h).2;cases this)
  push_cast -dsimp(maxSteps:=4000000) [ef,et];refine lW (te:=259) (k:=.i64) (q:=.i64) rfl rfl rfl Tryz.underlying32 (by kernel_rfl) (by kernel_rfl) ?_;have Rf:(!((2:Int) == 1))=true:=rfl;rw[Rf];push_cast -dsimp(maxSteps:=4000000) [ef,et];refine⟨⟨_,_,rfl,.inr (.inr rfl),λn hn h=>?_⟩,hb⟩
  first|exact absurd h (gC n hn)|(have:=(hx n (by omega) h).2;cases this)
 ·have gC:=qt (.inr (by omega));refine aA (qB bits kM r (by first|omega|exact hs) w) ?_
  rintro _ w1 ⟨⟨v,e,rfl,hv,he,hx⟩,hb⟩;have ql:∃ct:Nat,IntKind.u64.wrap (1*2 ^ min (IntKind.u64.wrap (bits-1)).toNat IntKind.u64.bits)=(ct:Int)/\2147483648<=ct/\ct<1099511627776:=by
   rcases kM with rfl|rfl
   ·exact⟨2147483648,by decide,by omega,by omega⟩
   exact⟨549755813888,by decide,by omega,by omega⟩
  obtain⟨ct,ql,aF4,aF5⟩:=ql;have ewv:IntKind.i64.wrap (v:Int)=(v:Int):=by rw[wrap_i64 (by omega)]
  rcases he with rfl|rfl|rfl
  ·push_cast -dsimp(maxSteps:=4000000) [ef,et];rw[ql];refine⟨λh=>by omega,λ_=>⟨by omega,by rcases kM with rfl|rfl<;>decide,λgh=>⟨⟨_,_,rfl,.inr (.inl rfl),λn hn h=>?_⟩,hb⟩,λbZ=>⟨⟨_,_,rfl,.inl rfl,λn hn h=>?_⟩,hb⟩⟩⟩
   ·first|exact absurd h (gC n hn)|(have:=(hx n (by omega) h).1;omega)
   first|exact absurd h (gC n hn)|(have:=(hx n (by omega) h).1;exact⟨by rw[ewv];omega,rfl⟩)
  ·push_cast -dsimp(maxSteps:=4000000) [ef,et];refine lW (te:=259) (k:=.i64) (q:=.i64) rfl rfl rfl Tryz.underlying32 (by kernel_rfl) (by kernel_rfl) ?_;have Rf:(!((1:Int) == 1))=false:=rfl;rw[Rf];push_cast -dsimp(maxSteps:=4000000) [ef,et];refine⟨λh=>by omega,λ_=>⟨by omega,by rcases kM with rfl|rfl<;>decide,λgh=>⟨⟨_,_,rfl,.inr (.inl rfl),λn hn h=>?_⟩,hb⟩,λbZ=>⟨⟨_,_,rfl,.inl rfl,λn hn h=>?_⟩,hb⟩⟩⟩
   ·first|exact absurd h (gC n hn)|(have:=(hx n (by omega) h).2;cases this)
   first|exact absurd h (gC n hn)|(have:=(hx n (by omega) h).2;cases this)
  push_cast -dsimp(maxSteps:=4000000) [ef,et];refine lW (te:=259) (k:=.i64) (q:=.i64) rfl rfl rfl Tryz.underlying32 (by kernel_rfl) (by kernel_rfl) ?_;have Rf:(!((2:Int) == 1))=true:=rfl;rw[Rf];push_cast -dsimp(maxSteps:=4000000) [ef,et];refine⟨⟨_,_,rfl,.inr (.inr rfl),λn hn h=>?_⟩,hb⟩
  first|exact absurd h (gC n hn)|(have:=(hx n (by omega) h).2;cases this)
 skip;refine aA (qB bits kM (c::r) (by first|omega|exact hs) w) ?_
 rintro _ w1 ⟨⟨v,e,rfl,hv,he,hx⟩,hb⟩;have ql:∃ct:Nat,IntKind.u64.wrap (1*2 ^ min (IntKind.u64.wrap (bits-1)).toNat IntKind.u64.bits)=(ct:Int)/\2147483648<=ct/\ct<1099511627776:=by
  rcases kM with rfl|rfl
  ·exact⟨2147483648,by decide,by omega,by omega⟩
  exact⟨549755813888,by decide,by omega,by omega⟩
 obtain⟨ct,ql,aF4,aF5⟩:=ql;have ewv:IntKind.i64.wrap (v:Int)=(v:Int):=by rw[wrap_i64 (by omega)]
 rcases he with rfl|rfl|rfl
 ·push_cast -dsimp(maxSteps:=4000000) [ef,et];rw[ql];refine⟨λh=>by omega,λ_=>⟨by omega,by rcases kM with rfl|rfl<;>decide,λgh=>⟨⟨_,_,rfl,.inr (.inl rfl),λn hn h=>?_⟩,hb⟩,λbZ=>⟨⟨_,_,rfl,.inl rfl,λn hn h=>?_⟩,hb⟩⟩⟩
  ·first|exact absurd h (gC n hn)|(have:=(hx n (by omega) h).1;omega)
  first|exact absurd h (gC n hn)|(have:=(hx n (by omega) h).1;exact⟨by rw[ewv];omega,rfl⟩)
 ·push_cast -dsimp(maxSteps:=4000000) [ef,et];refine lW (te:=259) (k:=.i64) (q:=.i64) rfl rfl rfl Tryz.underlying32 (by kernel_rfl) (by kernel_rfl) ?_;have Rf:(!((1:Int) == 1))=false:=rfl;rw[Rf];push_cast -dsimp(maxSteps:=4000000) [ef,et];refine⟨λh=>by omega,λ_=>⟨by omega,by rcases kM with rfl|rfl<;>decide,λgh=>⟨⟨_,_,rfl,.inr (.inl rfl),λn hn h=>?_⟩,hb⟩,λbZ=>⟨⟨_,_,rfl,.inl rfl,λn hn h=>?_⟩,hb⟩⟩⟩
  ·first|exact absurd h (gC n hn)|(have:=(hx n (by omega) h).2;cases this)
  first|exact absurd h (gC n hn)|(have:=(hx n (by omega) h).2;cases this)
 push_cast -dsimp(maxSteps:=4000000) [ef,et];refine lW (te:=259) (k:=.i64) (q:=.i64) rfl rfl rfl Tryz.underlying32 (by kernel_rfl) (by kernel_rfl) ?_;have Rf:(!((2:Int) == 1))=true:=rfl;rw[Rf];push_cast -dsimp(maxSteps:=4000000) [ef,et];refine⟨⟨_,_,rfl,.inr (.inr rfl),λn hn h=>?_⟩,hb⟩
 first|exact absurd h (gC n hn)|(have:=(hx n (by omega) h).2;cases this)
theorem jr (bits:Int)(kM:bits=32\/bits=40)(s:List UInt8)(hs:s.length<=1000000000)(w:World)(h:lZ w):bD Tryz.prog 114 [str s,.int .i64 16,.int .i64 bits] w λr w'=>(∃(v:Int) (e:Value),r=.tuple #[.int .i64 v,e]/\(e=.nilIface\/∃t x,e=.iface t x)/\(∀n<2147483648,s=fu n->v=n/\e=.nilIface))/\Below w.heap.size w w':=by
 refine aE Tryz.func114 rfl (by kernel_rfl) [6,7] rfl ?_;push_cast -dsimp(maxSteps:=4000000) [Tryz.ntmps114];refine aA (Jr bits kM s hs w) ?_;rintro _ w1 ⟨⟨v,e,rfl,he,hx⟩,hb⟩;rcases he with rfl|rfl|rfl
 ·push_cast -dsimp(maxSteps:=4000000) [];exact⟨⟨_,_,rfl,.inl rfl,hx⟩,hb⟩
 ·push_cast -dsimp(maxSteps:=4000000) [];refine aA (Ll [80,97,114,115,101,73,110,116] s 16 bits 1 (.inl rfl) hs w1 (h.below hb)) ?_;rintro _ w2 ⟨⟨t,p,rfl⟩,eW⟩;push_cast -dsimp(maxSteps:=4000000) [];exact⟨⟨_,_,rfl,.inr ⟨_,_,rfl⟩,λn hn hh=>by have:=(hx n hn hh).2;cases this⟩,hb.trans (eW.mono hb.size)⟩
 push_cast -dsimp(maxSteps:=4000000) [];refine aA (Ll [80,97,114,115,101,73,110,116] s 16 bits 2 (.inr rfl) hs w1 (h.below hb)) ?_;rintro _ w2 ⟨⟨t,p,rfl⟩,eW⟩;push_cast -dsimp(maxSteps:=4000000) [];exact⟨⟨_,_,rfl,.inr ⟨_,_,rfl⟩,λn hn hh=>by have:=(hx n hn hh).2;cases this⟩,hb.trans (eW.mono hb.size)⟩
end Go.Proofs.YtodeeahdhnjpkaaGreatDoor
end
section
namespace Go.Proofs.YtodeeahdhnjpkaaGreatDoor
open Go.Vc Go.Proofs Go.RowKit Cae
attribute [local irreducible] cw ag aq a8 runK bD Sl Vc.Own vc aW cN ai
def IK (B:Nat)(s:List UInt8)(r:Value)(w:World):Prop :=
 (∃v l,r=.tuple #[v,.nilIface]/\Go.Vc.Own B 104 2 encR w v l/\cL s l)\/((∀l,¬cL s l)/\r=.tuple #[.slice none 0 0,.iface 26 (.int .i64 3)])
def IJ (sz:Nat)(w:World)(s body:List UInt8)(pre:List (List UInt8))(W:World):Prop :=
 ∃v out,aO W sz 44 [.slice none 0 0]/\aO W (sz+1) 32 [.nilIface]/\aO W (sz+2) 9 [str body]/\aO W (sz+3) 44 [v]/\Go.Vc.Own (sz+9) 104 2 encR W v out/\out.length=pre.length/\(body=[]->out=[])/\(∀l,cL s l->out=l.take pre.length)/\Below sz w W
def Lw (sz:Nat)(w:World)(s body:List UInt8)(c:Code)(pre:List (List UInt8))(W:World):Prop :=
 (c=.ret/\aO W sz 44 [.slice none 0 0]/\aO W (sz+1) 32 [.iface 26 (.int .i64 3)]/\(∀l,¬cL s l)/\Below sz w W)\/(c=.exit 0/\body=[]/\IJ sz w s body [] W)
theorem IJ.kept {sz:Nat}{w W W':World}{s body:List UInt8}{pre:List (List UInt8)}(hw:sz=w.heap.size)(h:IJ sz w s body pre W)(hk:Kept (λk=>k=sz+4\/k=sz+7\/k=sz+7+1) W W'):IJ sz w s body pre W':=by
 obtain⟨v,out,h1,h2,h3,h4,h5,h6,h7,h8,h9⟩:=h;exact⟨v,out,h1.kept hk (by omega),h2.kept hk (by omega),h3.kept hk (by omega),h4.kept hk (by omega),h5.ak hk (λg hg hh=>by have:=(h5.block g hg).1;omega),h6,h7,h8,h9.trans (hk.below (by have:=h9.size;omega) (λi h=>by omega))⟩
theorem Lw.kept {sz:Nat}{w W W':World}{s body:List UInt8}{c:Code}{pre:List (List UInt8)}(hw:sz=w.heap.size)(h:Lw sz w s body c pre W)(hk:Kept (λk=>k=sz+4\/k=sz+7\/k=sz+7+1) W W'):Lw sz w s body c pre W':=by
 rcases h with ⟨h0,h1,h2,h3,h9⟩|⟨h0,h1,h2⟩
 ·exact .inl ⟨h0,h1.kept hk (by omega),h2.kept hk (by omega),h3,h9.trans (hk.below (by have:=h9.size;omega) (λi h=>by omega))⟩
 exact .inr ⟨h0,h1,h2.kept hw hk⟩
theorem js {w W:World}{s:List UInt8}{r1 r2:Value}{D:Nat}(hD:D=w.heap.size+7)(P1:aO W w.heap.size 44 [r1])(P2:aO W (w.heap.size+1) 32 [r2])(hDW:W.heap[D]?=some (.deferred (some [])))(hb:Below w.heap.size w W)
  (hR:IK w.heap.size s (.tuple #[r1,r2]) (W.putObj D (.deferred none))) {t:Fr} (h2:t.getD 2 undef=.pointer (some ⟨w.heap.size,0,none⟩)) (h3:t.getD 3 undef=.pointer (some ⟨w.heap.size+1,0,none⟩)) :
  bodyPostM Fence.wide 0 Tryz.prog Tryz.f119 (λe w'=>∃v,e=.returned v/\IK w.heap.size s v w'/\Below w.heap.size w w') .ret ⟨t.toArray,[{ target:=.collected D,args:=#[] }]⟩ W:=by
 have hk:=wL (X:=λk=>k=D) W D (.deferred none) rfl;have Q1:=P1.kept hk (by omega);have Q2:=P2.kept hk (by omega);refine aCB (rs:=[.cell 2 44,.cell 3 32]) (by rfl) hDW ?_;have d1:(W.putObj D (.deferred none)).cell? ⟨w.heap.size,0,none⟩=some r1:=Q1.cell rfl;have d2:(W.putObj D (.deferred none)).cell? ⟨w.heap.size+1,0,none⟩=some r2:=Q2.cell rfl;have hgW:∃V,W.putObj D (.deferred none)=V:=⟨_,rfl⟩;obtain⟨V,hV⟩:=hgW;rw[hV]at d1 d2 hR hk ⊢
 push_cast -dsimp[h2,h3,d1,d2];exact⟨hR,hb.trans (hk.below hb.size (λi h=>by omega))⟩
theorem YY (s:List UInt8)(hs:s.length<=1000000)(w:World)(hd:Db w)(he:lZ w):bD Tryz.prog 119 [str s] w λr w'=>IK w.heap.size s r w'/\Below w.heap.size w w':=by
 refine Mt Tryz.func119 rfl (by kernel_rfl) ?_;simp -dsimp (maxSteps:=4000000) only[push_cast,sq,Tryz.ntmps119,List.length_cons,List.length_nil,Nat.reduceAdd,Nat.reduceSub,Nat.reduceBEq,List.replicate_succ,List.replicate_zero];refine mI (ro:=none) (by rfl) ?_;push_cast -dsimp;refine aR (z:=[.slice none 0 0]) (by kernel_rfl) ?_;intro w1 au;have sT:=au.size;have B1:=au.aN;have b1:=au.below;push_cast -dsimp;refine aR (z:=[.nilIface]) (by kernel_rfl) ?_;intro w2 bT;have KN:=bT.size;have B12:=B1.below bT.below (by omega);have B22:=bT.aN;have b2:=b1.trans (bT.below.mono (by omega));rw[sT]at B22;push_cast -dsimp[sT];refine mI (ro:=none) (by rfl) ?_;push_cast -dsimp;refine aA (RT s [91] w2) ?_;rintro _ Lp ⟨rfl,rfl⟩;push_cast -dsimp;refine aR (z:=[str []]) (by kernel_rfl) ?_;intro w3 bO;have Li:=bO.size;have B13:=B12.below bO.below (by omega);have B23:=B22.below bO.below (by omega);have B33:=bO.aN;have b3:=b2.trans (bO.below.mono (by omega));have es2:Lp.heap.size=w.heap.size+2:=by omega
 rw[es2]at B33;push_cast -dsimp[es2];refine aC B33 (by simp) rfl ?_;intro w4 aj;have sz4:w4.heap.size=w3.heap.size:=aj.size;have B14:=B13.kept aj.kept (by omega);have B24:=B23.kept aj.kept (by omega);have B34:aO w4 (w.heap.size+2) 9 [str (Lib.trimPrefix s [91])]:=aj.aN;have b4:=b3.trans (aj.kept.below (B:=w.heap.size) (by omega) (λi h=>by omega));have c34:w4.cell? ⟨w.heap.size+2,0,none⟩=some (str (Lib.trimPrefix s [91])):=B34.cell rfl;have GO:(Lib.trimPrefix s [91]).length<=s.length:=by
  unfold Lib.trimPrefix;split
  ·rw[List.length_drop];omega
  exact Nat.le_refl _
 push_cast -dsimp;refine mI (ro:=none) (by rfl) ?_;push_cast -dsimp[c34];refine aA (RV (Lib.trimPrefix s [91]) [93] (by omega) w4) ?_;rintro _ w4' ⟨rfl,rfl⟩;push_cast -dsimp;refine aC B34 (by simp) rfl ?_;intro w5 bW;have sz5:w5.heap.size=w4'.heap.size:=bW.size;have B15:=B14.kept bW.kept (by omega);have B25:=B24.kept bW.kept (by omega);have vh:∃body,Lib.trimSuffix (Lib.trimPrefix s [91]) [93]=body:=⟨_,rfl⟩;obtain⟨body,rH⟩:=vh;have iL:body.length<=s.length:=by
  rw[<-rH];unfold Lib.trimSuffix;split
  ·rw[List.length_take];omega
  exact GO
 rw[rH]at bW;rw[rH];have B35:aO w5 (w.heap.size+2) 9 [str body]:=bW.aN;have b5:=b4.trans (bW.kept.below (B:=w.heap.size) (by omega) (λi h=>by omega));have c15:w5.cell? ⟨w.heap.size,0,none⟩=some (.slice none 0 0):=B15.cell rfl;have hgp:∃pf,Lib.hasPrefix s [91]=pf:=⟨_,rfl⟩;obtain⟨pf,hpf⟩:=hgp;have uH:∃sf,Lib.hasSuffix (Lib.trimPrefix s [91]) [93]=sf:=⟨_,rfl⟩;obtain⟨sf,hsf⟩:=uH;rw[hpf,hsf];push_cast -dsimp;refine mI (ro:=none) (by rfl) ?_;cases oM:(pf && sf) with
 | false =>
  have gC:∀l,¬cL s l:=λl h=>by
   have:=q4 h;rw[hpf,hsf]at this;rw[this.1,this.2.1]at oM;cases oM
  cases pf<;>cases sf<;>first|(cases oM;done)|skip
  all_goals
   push_cast -dsimp
   refine aC B15 (by simp) rfl ?_
   intro w6 cB
   have sz6:w6.heap.size=w5.heap.size:=cB.size
   have B26:=B25.kept cB.kept (by omega)
   have B16:aO w6 w.heap.size 44 [.slice none 0 0]:=cB.aN
   push_cast -dsimp
   refine aC B26 (by simp) rfl ?_
   intro w7 dN
   have B17:=B16.kept dN.kept (by omega)
   have B27:aO w7 (w.heap.size+1) 32 [.iface 26 (.int .i64 3)]:=dN.aN
   have b7:=(b5.trans (cB.kept.below (B:=w.heap.size) (by omega) (λi h=>by omega))).trans (dN.kept.below (B:=w.heap.size) (by omega) (λi h=>by omega))
   have d1:w7.cell? ⟨w.heap.size,0,none⟩=some (.slice none 0 0):=B17.cell rfl
   have d2:w7.cell? ⟨w.heap.size+1,0,none⟩=some (.iface 26 (.int .i64 3)):=B27.cell rfl
   push_cast -dsimp
   refine aCA (rs:=[.cell 2 44,.cell 3 32]) (by rfl) ?_
   push_cast -dsimp[d1,d2]
   exact⟨.inr ⟨gC,rfl⟩,b7⟩
 | true =>
  cases pf<;>cases sf<;>first|(cases oM;done)|skip
  push_cast -dsimp;refine mI (ro:=none) (by rfl) ?_;push_cast -dsimp;refine aR (z:=[.slice none 0 0]) (by kernel_rfl) ?_;intro w6 cB;have sz6:=cB.size;have B16:=B15.below cB.below (by omega);have B26:=B25.below cB.below (by omega);have B36:=B35.below cB.below (by omega);have B46:=cB.aN;have b6:=b5.trans (cB.below.mono (by omega));have es5:w5.heap.size=w.heap.size+3:=by omega
  rw[es5]at B46;have c36:w6.cell? ⟨w.heap.size+2,0,none⟩=some (str body):=B36.cell rfl;push_cast -dsimp[es5];refine wpIn_seq (mI (ro:=none) (by rfl) ?_);push_cast -dsimp[c36];refine aA (HS body 32 w6) ?_;rintro _ w7 ⟨rfl,hS,hP,hV,Yj,Mz⟩;have es6:w6.heap.size=w.heap.size+4:=by omega
  rw[es6]at hS hP hV;have B17:=B16.below Mz (by omega);have B27:=B26.below Mz (by omega);have B37:=B36.below Mz (by omega);have B47:=B46.below Mz (by omega);have b7:=b6.trans (Mz.mono (by omega));push_cast -dsimp[es6];have Wz:w7.heap.size=w.heap.size+7:=by omega
  have hS7:aO w7 (w.heap.size+4) 9 [str body]:=hS;refine wpIn_block (aC7 (α:=List UInt8) (gf:=224) (lb:=[.pointer (some ⟨w.heap.size+4+1,0,none⟩),.pointer (some ⟨w.heap.size+4,0,none⟩),.pointer (some ⟨w.heap.size+4+2,0,none⟩)]) (by rfl) (λargs w=>cR Tryz.func224 (by kernel_rfl) (by kernel_rfl)) (en:=λx=>str x) (B:=λk=>k=w.heap.size+4) (Z:=λk=>k=w.heap.size+4\/k=w.heap.size+4+1\/k=w.heap.size+4+2)
   (λk hk=>by omega) (λk hk=>by omega) (VD body 32 (by omega) _ _ _ _ (by omega) (by omega) w7 hS hP hV) (IJ w.heap.size w s body) (Lw w.heap.size w s body) (λp W W' h hk=>h.kept rfl (by rw[Wz]at hk;exact hk)) (λc p W W' h hk=>h.kept rfl (by rw[Wz]at hk;exact hk)) ?_ 8 (by rfl) (by rfl) ?_ ?_ ?_ ?_)
  ·exact⟨_,[],B17,B27,B37,B47,Go.Vc.Own.nil (enc:=encR) _ _ (λ_=>rfl) _,rfl,λ_=>rfl,λl _=>rfl,b7⟩
  ·intro x W;push_cast -dsimp
  ·intro pre x W hI hA hWs;obtain⟨v,out,P1,P2,P3,P4,ho,NN,gw,Sz,Kt⟩:=hI;have Ku:=Kt.size;have cb:W.cell? ⟨w.heap.size+2,0,none⟩=some (str body):=P3.cell rfl;have lO:x∈splitB 32 body:=hA.subset (by simp);have hxl:=oY 32 body x lO;have aNt:pre.length<=body.length:=by
    have h1:=hA.length_le;have h2:=sG 32 body;rw[List.length_append,List.length_singleton]at h1;omega
   have X3:∀l,cL s l->aH (-2) l=true/\body=iZ l:=λl hl=>⟨hl.1,by rw[<-rH];exact(q4 hl).2.2⟩;push_cast -dsimp[cb];refine⟨λVu=>?_,λXU=>?_⟩
   ·have nB:=gw Vu;subst nB;exact⟨Nat.le_refl _,.inr ⟨rfl,Vu,v,[],P1,P2,P3,P4,ho,rfl,λ_=>rfl,λl _=>rfl,Kt⟩⟩
   refine aA (aE0 x 45 (by omega) W) ?_;rintro _ w8 ⟨rfl,kW⟩;have hgc:∃a b two,lj 45 x=(a,b,two):=⟨_,_,_,rfl⟩;obtain⟨a,b,two,qn⟩:=hgc;have lC:=RR 45 x;rw[qn]at lC;rw[qn];obtain⟨hla,hlb⟩:=lC;dsimp only at hla hlb;cases two with
   | true =>
    have hcp:∀l,cL s l->∃r,l[pre.length]?=some r/\0<=r.1/\r.1<=r.2/\r.2<=1114111/\a=fu r.1.toNat/\b=fu r.2.toNat:=λl hl=>by
     obtain⟨hr,me⟩:=X3 l hl;obtain⟨r,NQ,Pw,EJ,hr3,hr4⟩:=vG hr me XU hA;rw[Pw]at qn;by_cases bZ:r.1<r.2
     ·rw[Ig (by omega) (by omega) (by omega) bZ]at qn;exact⟨r,NQ,EJ,hr3,hr4,(Prod.mk.inj qn).1.symm,(Prod.mk.inj (Prod.mk.inj qn).2).1.symm⟩
     rw[CF (by omega) (by omega) bZ]at qn;cases (Prod.mk.inj (Prod.mk.inj qn).2).2
    push_cast -dsimp;refine aA (jr 32 (.inl rfl) a (by omega) w8 (he.below (Kt.trans (kW.mono Ku)))) ?_;rintro _ w9 ⟨⟨v1,e1,rfl,he1,Av⟩,AD⟩;push_cast -dsimp;refine aA (jr 32 (.inl rfl) b (by omega) w9 (he.below (Kt.trans ((kW.tr AD).mono Ku)))) ?_;rintro _ tq ⟨⟨v2,e2,rfl,JF,wJ⟩,aBx⟩;have kL:=(kW.tr AD).tr aBx;have Q1:=P1.below kL (by omega);have Q2:=P2.below kL (by omega);have Q3:=P3.below kL (by omega);have Q4:=P4.below kL (by omega);have hoq:=ho.below kL;have vg:=Kt.trans (kL.mono Ku);have hWq:=kL.size;have sy:Kept (λ_=>False) W tq:=Kept.aJ kL (λi h1 h2=>by omega);have qw:∀l,cL s l->∃r,l[pre.length]?=some r/\v1=r.1/\v2=r.2/\e1=.nilIface/\e2=.nilIface:=λl hl=>by
     obtain⟨r,NQ,EJ,hr3,hr4,zH,Pn⟩:=hcp l hl;have h1:=Av _ (by omega) zH;have h2:=wJ _ (by omega) Pn;exact⟨r,NQ,by rw[h1.1];omega,by rw[h2.1];omega,h1.2,h2.2⟩
    by_cases JG:e1=.nilIface/\e2=.nilIface
    ·obtain⟨rfl,rfl⟩:=JG;have cv:tq.cell? ⟨w.heap.size+3,0,none⟩=some v:=Q4.cell rfl;have eM:=hoq.slice;obtain⟨oa,oc,rfl⟩:=eM;push_cast -dsimp[cv];refine cY fQ rfl rfl (by omega) ?_;intro A8 jl;have aLO:=jl.size;have Sx:=hoq.new jl;have R4:=Q4.below jl.below (by omega);push_cast -dsimp;refine ae (base:=w.heap.size+9) [(v1,v2)] (enc:=encR) fQ Sx (by rfl) (λj u hu=>by simpa[encR] using jl.cell hu) gS (by simp only[List.length_cons,List.length_nil];omega) (by omega) ?_;intro v12 qO JQ aBJ aGt;have kg:Kept (λj=>(Value.slice oa out.length oc).ownBlock=some j) A8 qO:=Kept.grown aBJ (λ_ h=>h);have gU:=Sx.block;have R5:aO qO (w.heap.size+3) 44 [.slice oa out.length oc]:=R4.kept kg (λh=>by have:=(gU _ h).1;omega);push_cast -dsimp;have eM:=JQ.slice;obtain⟨va,vc,rfl⟩:=eM;refine aC R5 (by simp) rfl ?_;intro rA JS;have zO:Kept (λj=>j=w.heap.size+3\/(Value.slice oa out.length oc).ownBlock=some j) tq rA:=((Kept.new (X:=λj=>j=w.heap.size+3\/(Value.slice oa out.length oc).ownBlock=some j) jl).trans kg (λ_ _ h=>.inr h)).trans JS.kept (λ_ _ h=>.inl h);have rj:∀{k:Nat},k=w.heap.size+3\/(Value.slice oa out.length oc).ownBlock=some k->w.heap.size+9<=k\/k=w.heap.size+3:=λh=>by
      rcases h with h|h
      ·exact .inr h
      exact .inl (gU _ h).1
     have S1:=Q1.kept zO (λh=>by have:=rj h;omega);have S2:=Q2.kept zO (λh=>by have:=rj h;omega);have S3:=Q3.kept zO (λh=>by have:=rj h;omega);have S4:aO rA (w.heap.size+3) 44 [.slice va (out++[(v1,v2)]).length vc]:=JS.aN;have aBY:=JQ.ak JS.kept (λg hg h=>by have:=(JQ.block g hg).1;omega);have hz:∀k,(k=w.heap.size+4\/k=w.heap.size+4+1\/k=w.heap.size+4+2)\/k=w7.heap.size\/k=w7.heap.size+1->rA.heap[k]?=W.heap[k]?:=λk hk =>
      (zO.block k (by omega) (λh=>by have:=rj h;omega)).trans (sy.block k (by omega) (λh=>h))
     have nW:IJ w.heap.size w s body (pre++[x]) rA:=⟨_,out++[(v1,v2)],S1,S2,S3,S4,aBY,by rw[List.length_append,List.length_append,NN];rfl,λh=>absurd h XU,λl hl=>by
       obtain⟨r,NQ,rfl,rfl,_,_⟩:=qw l hl;have ht:l.take (pre++[x]).length=l.take pre.length++[r]:=by
        rw[List.length_append,List.length_singleton,List.take_add_one,NQ];rfl
       rw[ht,<-Sz l hl],vg.trans (zO.below (B:=w.heap.size) (by omega) (λi h=>by have:=rj h;omega))⟩
     have TK:W.heap.size<=rA.heap.size:=by have:=zO.size;omega
     push_cast -dsimp;exact⟨TK,hz,nW⟩
    have pE:∀l,¬cL s l:=λl hl=>by
     obtain⟨r,_,_,_,h1,h2⟩:=qw l hl;exact JG ⟨h1,h2⟩
    have fin:∀(rA:World),aO rA w.heap.size 44 [.slice none 0 0]->aO rA (w.heap.size+1) 32 [.iface 26 (.int .i64 3)]->Kept (λk=>k=w.heap.size\/k=w.heap.size+1) tq rA->W.heap.size<=rA.heap.size/\(∀k,(k=w.heap.size+4\/k=w.heap.size+4+1\/k=w.heap.size+4+2)\/k=w7.heap.size\/k=w7.heap.size+1->rA.heap[k]?=W.heap[k]?)/\Lw w.heap.size w s body .ret (pre++[x]) rA:=λrA h1 h2 hk =>
     ⟨by have:=hk.size;omega,λk h=>(hk.block k (by omega) (by omega)).trans (sy.block k (by omega) (λh=>h)),.inl ⟨rfl,h1,h2,pE,vg.trans (hk.below (by omega) (λi h=>by omega))⟩⟩
    rcases he1 with rfl|⟨t1,x1,rfl⟩
    ·rcases JF with rfl|⟨t2,x2,rfl⟩
     ·exact absurd ⟨rfl,rfl⟩ JG
     push_cast -dsimp;refine aC Q1 (by simp) rfl ?_;intro A8 jl;have T2:=Q2.kept jl.kept (by omega);have T1:aO A8 w.heap.size 44 [.slice none 0 0]:=jl.aN;push_cast -dsimp;refine aC T2 (by simp) rfl ?_;intro qO gj;have U1:=T1.kept gj.kept (by omega);have rf:=fin qO U1 gj.aN ((jl.kept.weaken (λi _ h=>.inl h)).trans gj.kept (λi _ h=>.inr h));push_cast -dsimp;exact rf
    push_cast -dsimp;refine aC Q1 (by simp) rfl ?_;intro A8 jl;have T2:=Q2.kept jl.kept (by omega);have T1:aO A8 w.heap.size 44 [.slice none 0 0]:=jl.aN;push_cast -dsimp;refine aC T2 (by simp) rfl ?_;intro qO gj;have U1:=T1.kept gj.kept (by omega);have rf:=fin qO U1 gj.aN ((jl.kept.weaken (λi _ h=>.inl h)).trans gj.kept (λi _ h=>.inr h));push_cast -dsimp;exact rf
   | false =>
    have hcp:∀l,cL s l->∃r,l[pre.length]?=some r/\0<=r.1/\r.1<=r.2/\r.2<=1114111/\a=fu r.1.toNat/\a=fu r.2.toNat:=λl hl=>by
     obtain⟨hr,me⟩:=X3 l hl;obtain⟨r,NQ,Pw,EJ,hr3,hr4⟩:=vG hr me XU hA;rw[Pw]at qn;by_cases bZ:r.1<r.2
     ·rw[Ig (by omega) (by omega) (by omega) bZ]at qn;cases (Prod.mk.inj (Prod.mk.inj qn).2).2
     rw[CF (by omega) (by omega) bZ]at qn;have e2:r.2=r.1:=by omega
     exact⟨r,NQ,EJ,hr3,hr4,(Prod.mk.inj qn).1.symm,by rw[e2];exact(Prod.mk.inj qn).1.symm⟩
    push_cast -dsimp;refine aA (jr 32 (.inl rfl) a (by omega) w8 (he.below (Kt.trans (kW.mono Ku)))) ?_;rintro _ w9 ⟨⟨v1,e1,rfl,he1,Av⟩,AD⟩;push_cast -dsimp;refine aA (jr 32 (.inl rfl) a (by omega) w9 (he.below (Kt.trans ((kW.tr AD).mono Ku)))) ?_;rintro _ tq ⟨⟨v2,e2,rfl,JF,wJ⟩,aBx⟩;have kL:=(kW.tr AD).tr aBx;have Q1:=P1.below kL (by omega);have Q2:=P2.below kL (by omega);have Q3:=P3.below kL (by omega);have Q4:=P4.below kL (by omega);have hoq:=ho.below kL;have vg:=Kt.trans (kL.mono Ku);have hWq:=kL.size;have sy:Kept (λ_=>False) W tq:=Kept.aJ kL (λi h1 h2=>by omega);have qw:∀l,cL s l->∃r,l[pre.length]?=some r/\v1=r.1/\v2=r.2/\e1=.nilIface/\e2=.nilIface:=λl hl=>by
     obtain⟨r,NQ,EJ,hr3,hr4,zH,Pn⟩:=hcp l hl;have h1:=Av _ (by omega) zH;have h2:=wJ _ (by omega) Pn;exact⟨r,NQ,by rw[h1.1];omega,by rw[h2.1];omega,h1.2,h2.2⟩
    by_cases JG:e1=.nilIface/\e2=.nilIface
    ·obtain⟨rfl,rfl⟩:=JG;have cv:tq.cell? ⟨w.heap.size+3,0,none⟩=some v:=Q4.cell rfl;have eM:=hoq.slice;obtain⟨oa,oc,rfl⟩:=eM;push_cast -dsimp[cv];refine cY fQ rfl rfl (by omega) ?_;intro A8 jl;have aLO:=jl.size;have Sx:=hoq.new jl;have R4:=Q4.below jl.below (by omega);push_cast -dsimp;refine ae (base:=w.heap.size+9) [(v1,v2)] (enc:=encR) fQ Sx (by rfl) (λj u hu=>by simpa[encR] using jl.cell hu) gS (by simp only[List.length_cons,List.length_nil];omega) (by omega) ?_;intro v12 qO JQ aBJ aGt;have kg:Kept (λj=>(Value.slice oa out.length oc).ownBlock=some j) A8 qO:=Kept.grown aBJ (λ_ h=>h);have gU:=Sx.block;have R5:aO qO (w.heap.size+3) 44 [.slice oa out.length oc]:=R4.kept kg (λh=>by have:=(gU _ h).1;omega);push_cast -dsimp;have eM:=JQ.slice;obtain⟨va,vc,rfl⟩:=eM;refine aC R5 (by simp) rfl ?_;intro rA JS;have zO:Kept (λj=>j=w.heap.size+3\/(Value.slice oa out.length oc).ownBlock=some j) tq rA:=((Kept.new (X:=λj=>j=w.heap.size+3\/(Value.slice oa out.length oc).ownBlock=some j) jl).trans kg (λ_ _ h=>.inr h)).trans JS.kept (λ_ _ h=>.inl h);have rj:∀{k:Nat},k=w.heap.size+3\/(Value.slice oa out.length oc).ownBlock=some k->w.heap.size+9<=k\/k=w.heap.size+3:=λh=>by
      rcases h with h|h
      ·exact .inr h
      exact .inl (gU _ h).1
     have S1:=Q1.kept zO (λh=>by have:=rj h;omega);have S2:=Q2.kept zO (λh=>by have:=rj h;omega);have S3:=Q3.kept zO (λh=>by have:=rj h;omega);have S4:aO rA (w.heap.size+3) 44 [.slice va (out++[(v1,v2)]).length vc]:=JS.aN;have aBY:=JQ.ak JS.kept (λg hg h=>by have:=(JQ.block g hg).1;omega);have hz:∀k,(k=w.heap.size+4\/k=w.heap.size+4+1\/k=w.heap.size+4+2)\/k=w7.heap.size\/k=w7.heap.size+1->rA.heap[k]?=W.heap[k]?:=λk hk =>
      (zO.block k (by omega) (λh=>by have:=rj h;omega)).trans (sy.block k (by omega) (λh=>h))
     have nW:IJ w.heap.size w s body (pre++[x]) rA:=⟨_,out++[(v1,v2)],S1,S2,S3,S4,aBY,by rw[List.length_append,List.length_append,NN];rfl,λh=>absurd h XU,λl hl=>by
       obtain⟨r,NQ,rfl,rfl,_,_⟩:=qw l hl;have ht:l.take (pre++[x]).length=l.take pre.length++[r]:=by
        rw[List.length_append,List.length_singleton,List.take_add_one,NQ];rfl
       rw[ht,<-Sz l hl],vg.trans (zO.below (B:=w.heap.size) (by omega) (λi h=>by have:=rj h;omega))⟩
     have TK:W.heap.size<=rA.heap.size:=by have:=zO.size;omega
     push_cast -dsimp;exact⟨TK,hz,nW⟩
    have pE:∀l,¬cL s l:=λl hl=>by
     obtain⟨r,_,_,_,h1,h2⟩:=qw l hl;exact JG ⟨h1,h2⟩
    have fin:∀(rA:World),aO rA w.heap.size 44 [.slice none 0 0]->aO rA (w.heap.size+1) 32 [.iface 26 (.int .i64 3)]->Kept (λk=>k=w.heap.size\/k=w.heap.size+1) tq rA->W.heap.size<=rA.heap.size/\(∀k,(k=w.heap.size+4\/k=w.heap.size+4+1\/k=w.heap.size+4+2)\/k=w7.heap.size\/k=w7.heap.size+1->rA.heap[k]?=W.heap[k]?)/\Lw w.heap.size w s body .ret (pre++[x]) rA:=λrA h1 h2 hk =>
     ⟨by have:=hk.size;omega,λk h=>(hk.block k (by omega) (by omega)).trans (sy.block k (by omega) (λh=>h)),.inl ⟨rfl,h1,h2,pE,vg.trans (hk.below (by omega) (λi h=>by omega))⟩⟩
    rcases he1 with rfl|⟨t1,x1,rfl⟩
    ·rcases JF with rfl|⟨t2,x2,rfl⟩
     ·exact absurd ⟨rfl,rfl⟩ JG
     push_cast -dsimp;refine aC Q1 (by simp) rfl ?_;intro A8 jl;have T2:=Q2.kept jl.kept (by omega);have T1:aO A8 w.heap.size 44 [.slice none 0 0]:=jl.aN;push_cast -dsimp;refine aC T2 (by simp) rfl ?_;intro qO gj;have U1:=T1.kept gj.kept (by omega);have rf:=fin qO U1 gj.aN ((jl.kept.weaken (λi _ h=>.inl h)).trans gj.kept (λi _ h=>.inr h));push_cast -dsimp;exact rf
    push_cast -dsimp;refine aC Q1 (by simp) rfl ?_;intro A8 jl;have T2:=Q2.kept jl.kept (by omega);have T1:aO A8 w.heap.size 44 [.slice none 0 0]:=jl.aN;push_cast -dsimp;refine aC T2 (by simp) rfl ?_;intro qO gj;have U1:=T1.kept gj.kept (by omega);have rf:=fin qO U1 gj.aN ((jl.kept.weaken (λi _ h=>.inl h)).trans gj.kept (λi _ h=>.inr h));push_cast -dsimp;exact rf
  ·intro xs W hS hI hD;obtain⟨v,out,P1,P2,P3,P4,ho,NN,gw,Sz,Kt⟩:=hI;have hxl:xs.length<=body.length+1:=by rw[hS];exact sG 32 body
   have fN:∀l,cL s l->out=l:=λl hl=>by
    have me:body=iZ l:=by rw[<-rH];exact(q4 hl).2.2
    by_cases ti:body=[]
    ·rw[gw ti,tv (me.symm.trans ti)]
    have iP:xs=l.map mW:=by rw[hS,me];exact sI hl.1 (by rw[<-me];exact ti)
    rw[Sz l hl,iP,List.length_map,List.take_length]
   have hoL:out.length<10000000:=by omega
   push_cast -dsimp;refine mI (ro:=none) (by rfl) ?_;have c7:W.cell? ⟨w.heap.size+3,0,none⟩=some v:=P4.cell rfl;have eM:=ho.slice;obtain⟨va,vc,rfl⟩:=eM;push_cast -dsimp[c7];refine aA (yj out (by omega) _ _ W ho.sl) ?_;rintro _ w8 ⟨rfl,kW⟩;have Ku:=Kt.size;have l4:=P4.lt;have E1:=P1.below kW (by omega);have E2:=P2.below kW (by omega);have E4:=P4.below kW (by omega);have qu:=ho.below kW;have xZ:=Kt.trans (kW.mono Ku);have XJ:=(kW.block w7.heap.size (Array.getElem?_eq_some_iff.1 hD).1).trans hD;have c8:w8.cell? ⟨w.heap.size+3,0,none⟩=some (.slice va out.length vc):=E4.cell rfl;cases hr:aH (-2) out with
   | false =>
    have pE:∀l,¬cL s l:=λl hl=>by
     have:=fN l hl;subst this;rw[hl.1]at hr;cases hr
    push_cast -dsimp;refine aC E1 (by simp) rfl ?_;intro wa eL;have sza:wa.heap.size=w8.heap.size:=eL.size;have Ta:aO wa w.heap.size 44 [.slice none 0 0]:=eL.aN;have Tb:=E2.kept eL.kept (by omega);have EG:=eL.kept;have Iq:=(EG.block w7.heap.size (by have:=(Array.getElem?_eq_some_iff.1 XJ).1;omega) (by omega)).trans XJ;have ED:=xZ.trans (EG.below (B:=w.heap.size) (by have:=xZ.size;omega) (λi h=>by omega));push_cast -dsimp;refine aC Tb (by simp) rfl ?_;intro wb cX;have szb:wb.heap.size=wa.heap.size:=cX.size;have Ub:=Ta.kept cX.kept (by omega);have vi:=cX.kept;have SM:=(vi.block w7.heap.size (by have:=(Array.getElem?_eq_some_iff.1 Iq).1;omega) (by omega)).trans Iq;have me:=ED.trans (vi.below (B:=w.heap.size) (by have:=ED.size;omega) (λi h=>by omega));push_cast -dsimp;exact js Wz Ub cX.aN SM me (.inr ⟨pE,rfl⟩) (by rfl) (by rfl)
   | true =>
    push_cast -dsimp[c8];refine aA (LY out (by omega) (zA (a := -2) (by omega) hr) _ _ w8 qu.sl (hd.below xZ hd.lt)) ?_;rintro _ w9 ⟨rfl,AD⟩;have l48:=E4.lt;have E19:=E1.below AD (by have:=kW.size;omega);have E29:=E2.below AD (by have:=kW.size;omega);have E49:=E4.below AD (by have:=kW.size;omega);have ho9:=qu.below AD;have JA:=xZ.trans (AD.mono xZ.size);have XK:=(AD.block w7.heap.size (Array.getElem?_eq_some_iff.1 XJ).1).trans XJ;have c9:w9.cell? ⟨w.heap.size+3,0,none⟩=some (.slice va out.length vc):=E49.cell rfl;push_cast -dsimp;refine⟨λdA=>?_,λheq=>?_⟩
    ·have pE:∀l,¬cL s l:=λl hl=>by
      have:=fN l hl;subst this;exact dA hl.2
     refine aC E19 (by simp) rfl ?_;intro wa eL;have sza:wa.heap.size=w9.heap.size:=eL.size;have Ta:aO wa w.heap.size 44 [.slice none 0 0]:=eL.aN;have Tb:=E29.kept eL.kept (by omega);have EG:=eL.kept;have Iq:=(EG.block w7.heap.size (by have:=(Array.getElem?_eq_some_iff.1 XK).1;omega) (by omega)).trans XK;have ED:=JA.trans (EG.below (B:=w.heap.size) (by have:=JA.size;omega) (λi h=>by omega));push_cast -dsimp;refine aC Tb (by simp) rfl ?_;intro wb cX;have szb:wb.heap.size=wa.heap.size:=cX.size;have Ub:=Ta.kept cX.kept (by omega);have vi:=cX.kept;have SM:=(vi.block w7.heap.size (by have:=(Array.getElem?_eq_some_iff.1 Iq).1;omega) (by omega)).trans Iq;have me:=ED.trans (vi.below (B:=w.heap.size) (by have:=ED.size;omega) (λi h=>by omega));push_cast -dsimp;exact js Wz Ub cX.aN SM me (.inr ⟨pE,rfl⟩) (by rfl) (by rfl)
    refine mI (ro:=none) (by rfl) ?_;push_cast -dsimp[c9];refine aC E19 (by simp) rfl ?_;intro wa eL;have sza:wa.heap.size=w9.heap.size:=eL.size;have EG:=eL.kept;have l49:=E49.lt;have Ta:aO wa w.heap.size 44 [.slice va out.length vc]:=eL.aN;have Tb:=E29.kept eL.kept (by omega);have hoa:=ho9.ak eL.kept (λg hg h=>by have:=(ho9.block g hg).1;omega);have lD:=(Array.getElem?_eq_some_iff.1 XK).1;have Iq:=(EG.block w7.heap.size (by omega) (by omega)).trans XK;have ED:=JA.trans (EG.below (B:=w.heap.size) (by omega) (λi h=>by omega));push_cast -dsimp;refine aC Tb (by simp) rfl ?_;intro wb cX;have szb:wb.heap.size=wa.heap.size:=cX.size;have vi:=cX.kept;have Ub:=Ta.kept cX.kept (by omega);have Sy:=hoa.ak cX.kept (λg hg h=>by have:=(hoa.block g hg).1;omega);have SM:=(vi.block w7.heap.size (by omega) (by omega)).trans Iq;have me:=ED.trans (vi.below (B:=w.heap.size) (by omega) (λi h=>by omega));have nB:=Sy.ak (wL (X:=λk=>k=w7.heap.size) wb w7.heap.size (.deferred none) rfl) (λg hg h=>by have:=(Sy.block g hg).1;omega);push_cast -dsimp;refine wpIn_ret ?_;exact js Wz Ub cX.aN SM me (.inl ⟨_,out,rfl,nB.mono (by omega),hr,Classical.not_not.1 heq⟩) (by rfl) (by rfl)
  intro c pre W hSp hX hD;rcases hX with ⟨rfl,h1,h2,pE,hb⟩|⟨rfl,Vu,hI⟩
  ·refine wpIn_ret ?_;push_cast -dsimp;exact js Wz h1 h2 hD hb (.inr ⟨pE,rfl⟩) (by rfl) (by rfl)
  obtain⟨v,out,P1,P2,P3,P4,ho,NN,gw,Sz,Kt⟩:=hI;have fN:∀l,cL s l->out=l:=λl hl=>by
   have me:body=iZ l:=by rw[<-rH];exact(q4 hl).2.2
   rw[gw Vu,tv (me.symm.trans Vu)]
  have hoL:out.length<10000000:=by rw[gw Vu];decide
  refine wpIn_exit ?_;push_cast -dsimp;refine mI (ro:=none) (by rfl) ?_;have c7:W.cell? ⟨w.heap.size+3,0,none⟩=some v:=P4.cell rfl;have eM:=ho.slice;obtain⟨va,vc,rfl⟩:=eM;push_cast -dsimp[c7];refine aA (yj out (by omega) _ _ W ho.sl) ?_;rintro _ w8 ⟨rfl,kW⟩;have Ku:=Kt.size;have l4:=P4.lt;have E1:=P1.below kW (by omega);have E2:=P2.below kW (by omega);have E4:=P4.below kW (by omega);have qu:=ho.below kW;have xZ:=Kt.trans (kW.mono Ku);have XJ:=(kW.block w7.heap.size (Array.getElem?_eq_some_iff.1 hD).1).trans hD;have c8:w8.cell? ⟨w.heap.size+3,0,none⟩=some (.slice va out.length vc):=E4.cell rfl;cases hr:aH (-2) out with
  | false =>
   have pE:∀l,¬cL s l:=λl hl=>by
    have:=fN l hl;subst this;rw[hl.1]at hr;cases hr
   push_cast -dsimp;refine aC E1 (by simp) rfl ?_;intro wa eL;have sza:wa.heap.size=w8.heap.size:=eL.size;have Ta:aO wa w.heap.size 44 [.slice none 0 0]:=eL.aN;have Tb:=E2.kept eL.kept (by omega);have EG:=eL.kept;have Iq:=(EG.block w7.heap.size (by have:=(Array.getElem?_eq_some_iff.1 XJ).1;omega) (by omega)).trans XJ;have ED:=xZ.trans (EG.below (B:=w.heap.size) (by have:=xZ.size;omega) (λi h=>by omega));push_cast -dsimp;refine aC Tb (by simp) rfl ?_;intro wb cX;have szb:wb.heap.size=wa.heap.size:=cX.size;have Ub:=Ta.kept cX.kept (by omega);have vi:=cX.kept;have SM:=(vi.block w7.heap.size (by have:=(Array.getElem?_eq_some_iff.1 Iq).1;omega) (by omega)).trans Iq;have me:=ED.trans (vi.below (B:=w.heap.size) (by have:=ED.size;omega) (λi h=>by omega));push_cast -dsimp;exact js Wz Ub cX.aN SM me (.inr ⟨pE,rfl⟩) (by rfl) (by rfl)
  | true =>
   push_cast -dsimp[c8];refine aA (LY out (by omega) (zA (a := -2) (by omega) hr) _ _ w8 qu.sl (hd.below xZ hd.lt)) ?_;rintro _ w9 ⟨rfl,AD⟩;have l48:=E4.lt;have E19:=E1.below AD (by have:=kW.size;omega);have E29:=E2.below AD (by have:=kW.size;omega);have E49:=E4.below AD (by have:=kW.size;omega);have ho9:=qu.below AD;have JA:=xZ.trans (AD.mono xZ.size);have XK:=(AD.block w7.heap.size (Array.getElem?_eq_some_iff.1 XJ).1).trans XJ;have c9:w9.cell? ⟨w.heap.size+3,0,none⟩=some (.slice va out.length vc):=E49.cell rfl;push_cast -dsimp;refine⟨λdA=>?_,λheq=>?_⟩
   ·have pE:∀l,¬cL s l:=λl hl=>by
     have:=fN l hl;subst this;exact dA hl.2
    refine aC E19 (by simp) rfl ?_;intro wa eL;have sza:wa.heap.size=w9.heap.size:=eL.size;have Ta:aO wa w.heap.size 44 [.slice none 0 0]:=eL.aN;have Tb:=E29.kept eL.kept (by omega);have EG:=eL.kept;have Iq:=(EG.block w7.heap.size (by have:=(Array.getElem?_eq_some_iff.1 XK).1;omega) (by omega)).trans XK;have ED:=JA.trans (EG.below (B:=w.heap.size) (by have:=JA.size;omega) (λi h=>by omega));push_cast -dsimp;refine aC Tb (by simp) rfl ?_;intro wb cX;have szb:wb.heap.size=wa.heap.size:=cX.size;have Ub:=Ta.kept cX.kept (by omega);have vi:=cX.kept;have SM:=(vi.block w7.heap.size (by have:=(Array.getElem?_eq_some_iff.1 Iq).1;omega) (by omega)).trans Iq;have me:=ED.trans (vi.below (B:=w.heap.size) (by have:=ED.size;omega) (λi h=>by omega));push_cast -dsimp;exact js Wz Ub cX.aN SM me (.inr ⟨pE,rfl⟩) (by rfl) (by rfl)
   refine mI (ro:=none) (by rfl) ?_;push_cast -dsimp[c9];refine aC E19 (by simp) rfl ?_;intro wa eL;have sza:wa.heap.size=w9.heap.size:=eL.size;have EG:=eL.kept;have l49:=E49.lt;have Ta:aO wa w.heap.size 44 [.slice va out.length vc]:=eL.aN;have Tb:=E29.kept eL.kept (by omega);have hoa:=ho9.ak eL.kept (λg hg h=>by have:=(ho9.block g hg).1;omega);have lD:=(Array.getElem?_eq_some_iff.1 XK).1;have Iq:=(EG.block w7.heap.size (by omega) (by omega)).trans XK;have ED:=JA.trans (EG.below (B:=w.heap.size) (by omega) (λi h=>by omega));push_cast -dsimp;refine aC Tb (by simp) rfl ?_;intro wb cX;have szb:wb.heap.size=wa.heap.size:=cX.size;have vi:=cX.kept;have Ub:=Ta.kept cX.kept (by omega);have Sy:=hoa.ak cX.kept (λg hg h=>by have:=(hoa.block g hg).1;omega);have SM:=(vi.block w7.heap.size (by omega) (by omega)).trans Iq;have me:=ED.trans (vi.below (B:=w.heap.size) (by omega) (λi h=>by omega));have nB:=Sy.ak (wL (X:=λk=>k=w7.heap.size) wb w7.heap.size (.deferred none) rfl) (λg hg h=>by have:=(Sy.block g hg).1;omega);push_cast -dsimp;refine wpIn_ret ?_;exact js Wz Ub cX.aN SM me (.inl ⟨_,out,rfl,nB.mono (by omega),hr,Classical.not_not.1 heq⟩) (by rfl) (by rfl)
end Go.Proofs.YtodeeahdhnjpkaaGreatDoor
end
section
namespace Cae
inductive dd {α β:Type}(R:α->β->Prop):List α->List β->Prop
 | nil:dd R [] []
 | cons {x y l m}:R x y->dd R l m->dd R (x::l) (y::m)
theorem dd.snoc {α β:Type}{R:α->β->Prop}{l:List α}{m:List β}{x:α}{y:β}(h:dd R l m)(hr:R x y):dd R (l++[x]) (m++[y]):=by
 induction h with
 | nil=>exact .cons hr .nil
 | cons h1 _ ih=>exact .cons h1 ih
theorem dd.len {α β:Type}{R:α->β->Prop}{l:List α}{m:List β}(h:dd R l m):l.length=m.length:=by
 induction h with
 | nil=>rfl
 | cons _ _ ih=>simp[ih]
def key (t:Cae.Tok):Nat×List UInt8:=(t.kind,t.text)
def vW (a b:List Cae.Tok):Prop:=a.map key=b.map key
def vp (a b:List Cae.Tok):Prop:=key (hd a)=key (hd b)
def EN (a:List Cae.Tok):Prop:=∀t∈a,t.kind≠5
theorem vW.refl (a:List Cae.Tok):vW a a:=rfl
theorem vW.len {a b:List Cae.Tok}(h:vW a b):a.length=b.length:=by simpa[vW] using congrArg List.length h
theorem vW.split {a b c:List Cae.Tok}(h:vW (a++b) c):∃x y,c=x++y/\vW a x/\vW b y:=by
 have h':a.map key++b.map key=c.map key:=by simpa[vW] using h
 refine⟨c.take a.length,c.drop a.length,(List.take_append_drop _ _).symm,?_,?_⟩
 ·have:=congrArg (List.take a.length) h';simpa[vW,List.take_append,List.map_take] using this
 have:=congrArg (List.drop a.length) h';simpa[vW,List.drop_append,List.map_drop] using this
theorem vp.app {a b c d:List Cae.Tok}(h:vW a b)(h':vp c d):vp (a++c) (b++d):=by
 cases a with
 | nil=>cases b with
  | nil=>exact h'
  | cons y b=>simp[vW]at h
 | cons x a=>cases b with
  | nil=>simp[vW]at h
  | cons y b=>simp only[vW,List.map_cons,List.cons.injEq]at h;exact h.1
theorem vp.apps {a b:List Cae.Tok}(h:vW a b)(dA:a≠[])(c d:List Cae.Tok):vp (a++c) (b++d):=by
 cases a with
 | nil=>exact absurd rfl dA
 | cons x a=>cases b with
  | nil=>simp[vW]at h
  | cons y b=>simp only[vW,List.map_cons,List.cons.injEq]at h;exact h.1
def Lo {α β:Type}(R:α->β->Prop)(p:Pa α)(p':Pa β):Prop:=∀l x l',p l=.ok (x,l')->∃pre,EN pre/\l=pre++l'/\∀mG l2,vW pre mG->vp l' l2->∃x2,R x x2/\p' (mG++l2)=.ok (x2,l2)
def gZ {α β:Type}(R:α->β->Prop)(p:Pa α)(p':Pa β):Prop:=∀l x l',p l=.ok (x,l')->∃pre,pre≠[]/\EN pre/\l=pre++l'/\∀mG l2,vW pre mG->∃x2,R x x2/\p' (mG++l2)=.ok (x2,l2)
section
variable {α β γ δ:Type} {R:α->β->Prop} {S:γ->δ->Prop} {p:Pa α} {p':Pa β} {q:α->Pa γ} {q':β->Pa δ}
theorem gZ.lo (h:gZ R p p'):Lo R p p':=λl x l' e=>by
 obtain⟨pre,_,h1,h2,h3⟩:=h l x l' e;exact⟨pre,h1,h2,λa b ha _=>h3 a b ha⟩
theorem Lo.pr {x:α}{y:β}(h:R x y):Lo R (pr x) (pr y):=λl x' l' e=>by
 cases e;refine⟨[],by simp[EN],rfl,λmG l2 hp _=>?_⟩;have:mG=[]:=List.length_eq_zero_iff.1 hp.len.symm;subst this;exact⟨y,h,rfl⟩
theorem Lo.fail {e:Nat}:Lo R (ck e) p':=λl x l' h=>by cases h
theorem gZ.fail {e:Nat}:gZ R (ck e) p':=λl x l' h=>by cases h
theorem eo {p:Pa α}{q:α->Pa γ}{l l':List Cae.Tok}{y:γ}(h:pb p q l=.ok (y,l')):∃x l1,p l=.ok (x,l1)/\q x l1=.ok (y,l'):=by
 unfold pb at h;split at h
 ·cases h
 rename_i x l1 e;exact⟨x,l1,e,h⟩
theorem aG {p:Pa α}{q:α->Pa γ}{l l1:List Cae.Tok}{x:α}(h:p l=.ok (x,l1)):pb p q l=q x l1:=by
 unfold pb;rw[h]
theorem Lo.pb (h:Lo R p p')(k:∀x y,R x y->Lo S (q x) (q' y)):Lo S (pb p q) (pb p' q'):=λl z l' e=>by
 obtain⟨x,l1,e1,e2⟩:=eo e;obtain⟨a,na,rfl,ha⟩:=h l x l1 e1;obtain⟨y0,NX,_⟩:=ha a l1 (vW.refl _) rfl;obtain⟨b,nb,rfl,_⟩:=k x y0 NX _ z l' e2;refine⟨a++b,λt ht=>(List.mem_append.1 ht).elim (na t) (nb t),by rw[List.append_assoc],λmG l2 hp hh=>?_⟩;obtain⟨u,v,rfl,hu,hv⟩:=hp.split;rw[List.append_assoc];obtain⟨y,hy,ey⟩:=ha u (v++l2) hu (vp.app hv hh);obtain⟨b',nb',eb,hb⟩:=k x y hy _ z l' e2;obtain rfl:=List.append_cancel_right eb;obtain⟨z2,hz,ez⟩:=hb v l2 hv hh;exact⟨z2,hz,by rw[aG ey];exact ez⟩
theorem gZ.pb (h:Lo R p p')(k:∀x y,R x y->gZ S (q x) (q' y)):gZ S (pb p q) (pb p' q'):=λl z l' e=>by
 obtain⟨x,l1,e1,e2⟩:=eo e;obtain⟨a,na,rfl,ha⟩:=h l x l1 e1;obtain⟨y0,NX,_⟩:=ha a l1 (vW.refl _) rfl;obtain⟨b,bne,nb,rfl,_⟩:=k x y0 NX _ z l' e2;refine⟨a++b,by simp[bne],λt ht=>(List.mem_append.1 ht).elim (na t) (nb t),by rw[List.append_assoc],λmG l2 hp=>?_⟩;obtain⟨u,v,rfl,hu,hv⟩:=hp.split;rw[List.append_assoc];obtain⟨y,hy,ey⟩:=ha u (v++l2) hu (vp.apps hv bne _ _);obtain⟨b',_,nb',eb,hb⟩:=k x y hy _ z l' e2;obtain rfl:=List.append_cancel_right eb;obtain⟨z2,hz,ez⟩:=hb v l2 hv;exact⟨z2,hz,by rw[aG ey];exact ez⟩
theorem gZ.map {f:α->γ}{f':β->δ}(h:gZ R p p')(k:∀x y,R x y->S (f x) (f' y)):gZ S (Cae.pb p λx=>Cae.pr (f x)) (Cae.pb p' λy=>Cae.pr (f' y)):=λl z l' e=>by
 obtain⟨x,l1,e1,e2⟩:=eo e;cases e2;obtain⟨a,ane,na,rfl,ha⟩:=h l x l' e1;refine⟨a,ane,na,rfl,λmG l2 hp=>?_⟩;obtain⟨y,hy,ey⟩:=ha mG l2 hp;exact⟨f' y,k x y hy,by rw[aG ey];rfl⟩
theorem Lo.bE {c c':List Cae.Tok->Bool}{p1 p2:Pa α}{p1' p2':Pa β}(hc:∀a b,vp a b->c a=c' b)(h1:Lo R p1 p1')(h2:Lo R p2 p2'):Lo R (bE c p1 p2) (bE c' p1' p2'):=λl x l' e=>by
 unfold Cae.bE at e;cases lC:c l with
 | true =>
  rw[lC]at e;obtain⟨a,na,rfl,ha⟩:=h1 l x l' e;refine⟨a,na,rfl,λmG l2 hp hh=>?_⟩;obtain⟨y,hy,ey⟩:=ha mG l2 hp hh;refine⟨y,hy,?_⟩;unfold Cae.bE;rw[<-hc _ _ (vp.app hp hh),lC];exact ey
 | false =>
  rw[lC]at e;obtain⟨a,na,rfl,ha⟩:=h2 l x l' e;refine⟨a,na,rfl,λmG l2 hp hh=>?_⟩;obtain⟨y,hy,ey⟩:=ha mG l2 hp hh;refine⟨y,hy,?_⟩;unfold Cae.bE;rw[<-hc _ _ (vp.app hp hh),lC];exact ey
theorem gZ.bE {c c':List Cae.Tok->Bool}{p1 p2:Pa α}{p1' p2':Pa β}(hc:∀a b,vp a b->c a=c' b)(h1:gZ R p1 p1')(h2:gZ R p2 p2'):gZ R (bE c p1 p2) (bE c' p1' p2'):=λl x l' e=>by
 unfold Cae.bE at e;cases lC:c l with
 | true =>
  rw[lC]at e;obtain⟨a,ane,na,rfl,ha⟩:=h1 l x l' e;refine⟨a,ane,na,rfl,λmG l2 hp=>?_⟩;obtain⟨y,hy,ey⟩:=ha mG l2 hp;refine⟨y,hy,?_⟩;unfold Cae.bE;rw[<-hc _ _ (vp.apps hp ane _ _),lC];exact ey
 | false =>
  rw[lC]at e;obtain⟨a,ane,na,rfl,ha⟩:=h2 l x l' e;refine⟨a,ane,na,rfl,λmG l2 hp=>?_⟩;obtain⟨y,hy,ey⟩:=ha mG l2 hp;refine⟨y,hy,?_⟩;unfold Cae.bE;rw[<-hc _ _ (vp.apps hp ane _ _),lC];exact ey
theorem Lo.eA:Lo (λt u=>key t=key u) eA eA:=λl x l' e=>by
 cases e;refine⟨[],by simp[EN],rfl,λmG l2 hp hh=>?_⟩;have:mG=[]:=List.length_eq_zero_iff.1 hp.len.symm;subst this;exact⟨hd l2,hh,rfl⟩
theorem gZ.pop:gZ (λ_ _=>True) bV bV:=λl x l' e=>by
 cases l with
 | nil=>cases e
 | cons t r =>
  by_cases h5:t.kind=5
  ·simp[bV,h5]at e
  have e':bV (t::r)=.ok ((),r):=by simp[bV,h5]
  rw[e']at e;cases e;refine⟨[t],by simp,by simpa[EN] using h5,rfl,λmG l2 hp=>⟨(),trivial,?_⟩⟩;cases mG with
  | nil=>simp[vW]at hp
  | cons u v =>
   have hv:v=[]:=by
    have:=hp.len;simpa using this.symm
   subst hv;have hk:t.kind=u.kind:=by
    simp only[vW,List.map_cons,List.map_nil,List.cons.injEq,key,Prod.mk.injEq]at hp;exact hp.1.1
   show bV (u::l2)=_
   have Dz:¬u.kind=5:=by rw[<-hk];exact h5
   simp[bV,Dz]
end
theorem vp.kind {a b:List Cae.Tok}(h:vp a b):(hd a).kind=(hd b).kind:=(Prod.mk.inj h).1
theorem vp.text {a b:List Cae.Tok}(h:vp a b):(hd a).text=(hd b).text:=(Prod.mk.inj h).2
theorem xI (k:Nat)(a b:List Cae.Tok)(h:vp a b):isKind k a=isKind k b:=by unfold isKind;rw[h.kind]
theorem jY (s:List UInt8)(a b:List Cae.Tok)(h:vp a b):bI s a=bI s b:=by unfold bI;rw[h.kind,h.text]
theorem Bw (a b:List Cae.Tok)(h:vp a b):fI a=fI b:=by unfold fI;rw[h.kind,h.text]
theorem aAL (a b:List Cae.Tok)(h:vp a b):vA a=vA b:=by unfold vA;rw[h.text]
theorem Wa (a b:List Cae.Tok)(h:vp a b):gB a=gB b:=by unfold gB;rw[xI 3 a b h,Bw a b h,jY _ a b h,jY _ a b h,jY _ a b h]
theorem aAM (a b:List Cae.Tok)(h:vp a b):dx a=dx b:=by unfold dx;rw[xI 3 a b h,Bw a b h]
def KE (k k2:ax):Prop:=∀a,fH k a=fH k2 a
def PE (x x2:aI):Prop:=∀n,al x n=al x2 n
theorem KE.not {p p2:Nat}{k k2:ax}(h:KE k k2):KE (.not p k) (.not p2 k2):=λa=>by simp only[fH];rw[h]
theorem KE.bin {c p p2:Nat}{k k2 r r2:ax}(h:KE k k2)(h':KE r r2):KE (.bin c p k r) (.bin c p2 k2 r2):=λa=>by simp only[fH];rw[h,h']
theorem U5 {l m:List aI}(h:dd PE l m)(n:Nat):bH l n=bH m n:=by
 induction h with
 | nil=>rfl
 | cons h1 _ ih=>simp only[bH];rw[h1,ih]
theorem PE.cat {l m:List aI}(h:dd PE l m):PE (.cat l) (.cat m):=λn=>by simp only[al];rw[U5 h]
theorem PE.alt {l m:List aI}(h:dd PE l m):PE (.alt l) (.alt m):=λn=>by simp only[al];rw[U5 h]
theorem PE.many {x x2:aI}{lo hi:Int}(h:PE x x2):PE (.many x lo hi) (.many x2 lo hi):=λn=>by simp only[al];rw[h]
theorem PE.one {k k2:ax}(h:KE k k2):PE (.one k) (.one k2):=λn=>by simp only[al];rw[h]
theorem PE.row {l m:List aI}(h:dd PE l m):PE (rowOf l) (rowOf m):=by
 cases h with
 | nil=>exact PE.cat .nil
 | cons h1 h2=>cases h2 with
  | nil=>exact h1
  | cons h3 h4=>exact PE.cat (.cons h1 (.cons h3 h4))
theorem PE.jW {l m:List aI}(h:dd PE l m):PE (jW l) (jW m):=by
 cases h with
 | nil=>exact PE.alt .nil
 | cons h1 h2=>cases h2 with
  | nil=>exact h1
  | cons h3 h4=>exact PE.alt (.cons h1 (.cons h3 h4))
def TT {α β:Type}:α->β->Prop:=λ_ _=>True
theorem fy:gZ TT bV bV:=gZ.pop
theorem iQ (s:List UInt8):gZ TT (a7 s) (a7 s):=gZ.bE (jY s) fy gZ.fail
theorem DL:gZ Eq fP fP:=gZ.bE Bw (gZ.bE aAL gZ.fail (gZ.pb Lo.eA λt u h=>gZ.map fy λ_ _ _=>(Prod.mk.inj h).2)) gZ.fail
theorem aCD:Lo Eq oB oB:=Lo.bE (jY _) (gZ.map fy λ_ _ _=>rfl).lo (Lo.bE (jY _) (gZ.map fy λ_ _ _=>rfl).lo (Lo.bE (jY _) (gZ.map fy λ_ _ _=>rfl).lo (Lo.pr rfl)))
theorem uz {one UB:Pa ax}(h:Lo KE one UB)(a b:Nat):∀(n:Nat) (k k2:ax),KE k k2->Lo KE (cj one a n k) (cj UB b n k2)
 | 0,_,_,_=>Lo.fail
 | n+1,k,k2,hk=>Lo.pb aCD λc c2 e=>by
   subst e;by_cases h0:c=0
   ·rw[if_pos h0,if_pos h0];exact Lo.pr hk
   rw[if_neg h0,if_neg h0];exact Lo.pb h λr r2 hr=>uz h a b n _ _ (KE.bin hk hr)
theorem yE {one UB:Pa ax}(h:Lo KE one UB):Lo KE (lG one) (lG UB):=Lo.pb Lo.eA λ_ _ _=>Lo.pb h λk k2 hk=>uz h _ _ _ _ _ hk
theorem Te:gZ KE yC yC:=gZ.pb Lo.eA λt u h=>by
 have ht:t.text=u.text:=(Prod.mk.inj h).2;rw[ht];cases Dc u.text with
 | none=>exact gZ.fail
 | some s=>exact gZ.map fy λ_ _ _ a=>rfl
theorem nE:∀d,Lo KE (dI d) (dI d)
 | 0=>Lo.fail
 | d+1=>Lo.bE (xI 3) Te.lo (Lo.bE (jY _) (Lo.pb Lo.eA λ_ _ _=>Lo.pb fy.lo λ_ _ _=>Lo.pb (nE d) λk k2 h=>Lo.pr (KE.not h))
   (Lo.bE (jY _) (Lo.pb fy.lo λ_ _ _=>Lo.pb (yE (nE d)) λk k2 h=>(gZ.map (iQ _) λ_ _ _=>h).lo)
    (Lo.pb Lo.eA λ_ _ _=>(gZ.map DL λn n2 e a=>by simp only[fH];exact e).lo)))
theorem G5:gZ Eq eF eF:=gZ.bE (xI 2) (gZ.pb Lo.eA λt u h=>by
 have ht:t.text=u.text:=(Prod.mk.inj h).2;rw[ht];by_cases h0:12<r6 u.text
 ·rw[if_pos h0];exact gZ.fail
 rw[if_neg h0];exact gZ.map fy λ_ _ _=>rfl) gZ.fail
theorem jn:Lo Eq bR bR:=Lo.pb G5.lo λlo lo2 e=>by
 subst e;refine Lo.bE (jY _) (Lo.pb fy.lo λ_ _ _=>Lo.bE (xI 2) (Lo.pb G5.lo λhi hi2 e=>?_) (gZ.map (iQ _) λ_ _ _=>rfl).lo) (gZ.map (iQ _) λ_ _ _=>rfl).lo;subst e;by_cases h0:hi<lo
 ·rw[if_pos h0];exact Lo.fail
 rw[if_neg h0];exact(gZ.map (iQ _) λ_ _ _=>rfl).lo
theorem Nd:Lo Eq cF cF:=Lo.bE (jY _) (gZ.map fy λ_ _ _=>rfl).lo (Lo.bE (jY _) (gZ.map fy λ_ _ _=>rfl).lo (Lo.bE (jY _) (gZ.map fy λ_ _ _=>rfl).lo
 (Lo.bE (jY _) (Lo.pb fy.lo λ_ _ _=>Lo.pb jn λr r2 e=>Lo.pr (by rw[e])) (Lo.pr rfl))))
theorem oQ (d:Nat):∀(n c:Nat) (x x2:aI),PE x x2->Lo PE (aw d n c x) (aw d n c x2)
 | 0,_,_,_,_=>Lo.fail
 | n+1,c,x,x2,h=>Lo.pb Nd λr r2 e=>by
   subst e;cases r with
   | none=>exact Lo.pr h
   | some q =>
    show Lo PE (if d<=c+1 then _ else _) (if d<=c+1 then _ else _)
    by_cases h0:d<=c+1
    ·rw[if_pos h0,if_pos h0];exact Lo.fail
    rw[if_neg h0,if_neg h0];exact oQ d n (c+1) _ _ (PE.many h)
theorem Ay {d:Nat}{unit H6:Pa aI}(h:Lo PE unit H6):Lo PE (aQ d unit) (aQ d H6):=Lo.pb h λx x2 hx=>oQ d _ _ _ _ hx
theorem yF {again wY:Pa aI}(h:Lo PE again wY):∀(n:Nat) (a b:List aI),dd PE a b->Lo (dd PE) (bG again n a) (bG wY n b)
 | 0,_,_,_=>Lo.fail
 | n+1,a,b,Ks=>Lo.bE Wa (Lo.pb h λx x2 hx=>yF h n _ _ (Ks.snoc hx)) (Lo.pr Ks)
theorem LK {again wY:Pa aI}(h:Lo PE again wY):Lo PE (gV again) (gV wY):=Lo.pb (yF h _ _ _ .nil) λ_ _ hx=>Lo.pr (PE.row hx)
theorem yD {row Un:Pa aI}(h:Lo PE row Un):∀(n:Nat) (a b:List aI),dd PE a b->Lo (dd PE) (eH row n a) (eH Un n b)
 | 0,_,_,_=>Lo.fail
 | n+1,a,b,Ks=>Lo.bE (jY _) (Lo.pb fy.lo λ_ _ _=>Lo.pb h λx x2 hx=>yD h n _ _ (Ks.snoc hx)) (Lo.pr Ks)
theorem Xr {row Un:Pa aI}(h:Lo PE row Un):Lo PE (IQ row) (IQ Un):=Lo.pb h λx x2 hx=>Lo.pb (yD h _ _ _ (.cons hx .nil)) λ_ _ hx=>Lo.pr (PE.jW hx)
theorem DM {d:Nat}{unit H6:Pa aI}(h:Lo PE unit H6):Lo PE (AX d unit) (AX d H6):=by
 unfold AX;by_cases h0:d=0
 ·rw[if_pos h0,if_pos h0];exact Lo.fail
 rw[if_neg h0,if_neg h0];exact Xr (LK (Ay h))
theorem wM:∀d,Lo PE (aY d) (aY d)
 | 0=>Lo.fail
 | d+1=>Lo.bE (jY _) (gZ.map fy λ_ _ _ _=>rfl).lo (Lo.bE (jY _) (gZ.map fy λ_ _ _ _=>rfl).lo
   (Lo.bE (jY _) (Lo.pb fy.lo λ_ _ _=>Lo.pb (DM (wM d)) λx x2 h=>(gZ.map (iQ _) λ_ _ _=>h).lo)
    (Lo.bE aAM (Lo.pb (nE (d+1)) λk k2 h=>Lo.pr (PE.one h)) Lo.fail)))
theorem Tf (d:Nat):Lo PE (j8 d) (j8 d):=DM (wM d)
theorem Xt:gZ Eq ep ep:=gZ.bE (jY _) (gZ.map fy λ_ _ _=>rfl) (gZ.map (iQ _) λ_ _ _=>rfl)
def RE (r r2:cW):Prop:=fz r=fz r2
theorem Xs:gZ RE iq iq:=gZ.pb Lo.eA λt t2 _=>gZ.pb Xt.lo λb b2 e=>gZ.pb (Tf 9) λx x2 hx=>gZ.pb (iQ _).lo λ_ _ _=>gZ.pb (Tf 9) λy y2 hy=>gZ.map (iQ _) λ_ _ _=>by
 subst e
 show fz _=fz _
 unfold fz;rw[hx 0,hy 0]
inductive Tk:Nat->List UInt8->List Cae.Tok->Prop
 | nil (i):Tk i [] []
 | blank {i c r l}:(c=32\/c=10)->Tk (i+1) r l->Tk i (c::r) l
 | note {i c r l}:¬(c=32\/c=10)->c=35->Tk (i+gk (· != 10) (c::r)) ((c::r).drop (gk (· != 10) (c::r))) l->Tk i (c::r) l
 | tok {i c r l}:¬(c=32\/c=10)->¬c=35->(gG (c::r)).2≠0->Tk (i+(gG (c::r)).2) ((c::r).drop (gG (c::r)).2) l->Tk i (c::r) (⟨(gG (c::r)).1,(c::r).take (gG (c::r)).2,i⟩::l)
theorem oV (f:UInt8->Bool)(s:List UInt8):gk f s<=s.length:=by
 unfold gk
 have:=List.takeWhile_append_dropWhile (p:=f) (l:=s);have h:=congrArg List.length this;rw[List.length_append]at h;omega
theorem HH {f:UInt8->Bool}{c:UInt8}{r:List UInt8}(h:f c=true):0<gk f (c::r):=by
 unfold gk;rw[List.takeWhile_cons,if_pos h,List.length_cons];omega
theorem CE {s:List UInt8}{c:UInt8}(h:s.contains c=true):gk (· != c) s<s.length:=by
 induction s with
 | nil=>simp at h
 | cons x s ih =>
  unfold gk at *
  by_cases hx:x=c
  ·subst hx;simp[List.takeWhile_cons]
  have h':s.contains c=true:=by
   rw[List.contains_cons]at h;have:(c == x)=false:=by simpa using Ne.symm hx
   rw[this]at h;simpa using h
  rw[List.takeWhile_cons,if_pos (by simpa using hx),List.length_cons,List.length_cons]
  have:=ih h';omega
theorem jq (c:UInt8)(r:List UInt8):gG (c::r)=if dV c then (1,gk (λc=>dV c || bu c) (c::r)) else if bu c then (2,gk bu (c::r))
  else if c=91 then (3,if (c::r).contains 93 then gk (· != 93) (c::r)+1 else 0) else if mg.contains c then (4,1) else (4,0):=rfl
theorem qA (c:UInt8)(r:List UInt8):(gG (c::r)).2<=(c::r).length:=by
 rw[jq];split
 ·exact oV _ _
 split
 ·exact oV _ _
 split
 ·split
  ·rename_i h;exact CE h
  simp
 split<;>simp
theorem jv:∀(n i:Nat) (s:List UInt8) (acc r:List Cae.Tok),acc.length<=500->jA n i s acc=.ok r->∃l,Tk i s l/\r=acc++l++[⟨5,[],i+s.length⟩]/\acc.length+l.length<=500
 | 0,_,_,_,_,_,h=>by cases h
 | n+1,i,[],acc,r,ha,h=>by
   cases h;exact⟨[],.nil i,by simp,by simpa using ha⟩
 | n+1,i,c::s,acc,r,ha,h=>by
   unfold jA at h;by_cases h1:c=32\/c=10
   ·rw[if_pos h1]at h;obtain⟨l,hl,e,hn⟩:=jv n _ _ _ _ ha h;exact⟨l,.blank h1 hl,by rw[e,List.length_cons,Nat.add_right_comm,Nat.add_assoc],hn⟩
   rw[if_neg h1]at h;by_cases h2:c=35
   ·rw[if_pos h2]at h;obtain⟨l,hl,e,hn⟩:=jv n _ _ _ _ ha h
    have:=oV (· != 10) (c::s);exact⟨l,.note h1 h2 hl,by rw[e,List.length_drop,Nat.add_assoc,Nat.add_sub_cancel' this],hn⟩
   rw[if_neg h2]at h;by_cases h3:(gG (c::s)).2=0
   ·rw[if_pos h3]at h;cases h
   rw[if_neg h3]at h;by_cases h4:acc.length=500
   ·rw[if_pos h4]at h;cases h
   rw[if_neg h4]at h;obtain⟨l,hl,e,hn⟩:=jv n _ _ _ _ (by rw[List.length_append,List.length_singleton];omega) h
   have:=qA c s;exact⟨_::l,.tok h1 h2 h3 hl,by rw[e,List.length_drop,Nat.add_assoc,Nat.add_sub_cancel' this];simp,by rw[List.length_append,List.length_singleton]at hn;rw[List.length_cons];omega⟩
theorem Tk.inside {i:Nat}{s:List UInt8}{l:List Cae.Tok}(h:Tk i s l):∀t∈l,t.text <:+: s:=by
 induction h with
 | nil i=>simp
 | @blank i c r l h1 hl ih=>exact λt ht=>(ih t ht).trans (List.suffix_cons c r).isInfix
 | @note i c r l h1 h2 hl ih=>exact λt ht=>(ih t ht).trans (List.drop_suffix _ _).isInfix
 | @tok i c r l h1 h2 h3 hl ih =>
  intro t ht;rcases List.mem_cons.1 ht with rfl|ht
  ·exact(List.take_prefix _ _).isInfix
  exact(ih t ht).trans (List.drop_suffix _ _).isInfix
def A6 (l:List Cae.Tok):Nat:=(l.map λt=>t.text.length).sum
theorem Tk.sum {i:Nat}{s:List UInt8}{l:List Cae.Tok}(h:Tk i s l):A6 l<=s.length/\∀t∈l,0<t.text.length:=by
 induction h with
 | nil i=>simp[A6]
 | @blank i c r l h1 hl ih=>exact⟨by rw[List.length_cons];omega,ih.2⟩
 | @note i c r l h1 h2 hl ih=>exact⟨by have:=ih.1;rw[List.length_drop]at this;omega,ih.2⟩
 | @tok i c r l h1 h2 h3 hl ih =>
  have h4:=qA c r;have h5:=ih.1;rw[List.length_drop]at h5;have h6:((c::r).take (gG (c::r)).2).length=(gG (c::r)).2:=by rw[List.length_take];omega
  refine⟨?_,λt ht=>?_⟩
  ·have:A6 (⟨(gG (c::r)).1,(c::r).take (gG (c::r)).2,i⟩::l)=((c::r).take (gG (c::r)).2).length+A6 l:=by simp[A6]
   rw[this,h6];omega
  rcases List.mem_cons.1 ht with rfl|ht
  ·show 0<((c::r).take (gG (c::r)).2).length
   rw[h6];omega
  exact ih.2 t ht
theorem OI {s:List UInt8}{f:dQ}(h:dM s=.ok f):∃l l',Tk 0 s l/\l.length<=500/\j3 (l++[⟨5,[],s.length⟩])=.ok (f,l')/\isKind 5 l'=true:=by
 unfold dM at h;split at h
 ·cases h
 rename_i l ht;split at h
 ·cases h
 rename_i g l' hf;split at h
 ·rename_i hk;cases h;obtain⟨m,hm,e,hn⟩:=jv _ _ _ _ _ (by simp) ht;simp only[List.nil_append,Nat.zero_add]at e;subst e;exact⟨m,l',hm,by simpa using hn,hf,hk⟩
 cases h
theorem SA {l l':List Cae.Tok}{f:dQ}(h:j3 l=.ok (f,l')):∃l1 l2,az 1000 [] l=.ok (f.bJ,l1)/\bA 1000 [] l1=.ok (f.rules,l2)/\ia l2=.ok (f.els,l'):=by
 obtain⟨cs,l1,h1,h⟩:=eo h;obtain⟨rs,l2,h2,h⟩:=eo h;obtain⟨b,l3,h3,h⟩:=eo h;cases h;exact⟨l1,l2,h1,h2,h3⟩
end Cae
end
