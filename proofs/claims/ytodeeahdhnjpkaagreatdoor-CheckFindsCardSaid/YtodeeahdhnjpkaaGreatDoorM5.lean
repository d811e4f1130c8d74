/- Texts of this claim, merged: Rng, Spl, Pin2, Par, Al2, Prl1, Prl2. -/
import Derived.Test.YtodeeahdhnjpkaaGreatDoorM4
import Derived.RangeFuncFrom
import Derived.LoopIn
import Derived.RangeFuncLeaves
import Derived.Shelf.Strconv.ToErrorRange
import Derived.Shelf.Strconv.ToError
set_option maxRecDepth 100000
set_option linter.unusedSimpArgs false
set_option linter.unusedVariables false
set_option maxHeartbeats 8000000
section
namespace Go.Vc
open Go.RowKit
section
variable {P:Program} {n:Nat} {ro:Option Nat} {ds:List Deferred}
def fen (ro:Option Nat):Fence:={ Fence.wide with round:=ro }
theorem callsFen {f:FuncId}{args:Array Value}{w:World}{R:Ending→World→Prop}(h:Calls P f args w R):CallsIn (fen ro) n P f args w R:=(callsIn_wide (n:=n)).2 h
def liftD (ds:List Deferred)(Q:EP):Exit→Act→World→Prop:=fun e a w=>a.defers=ds∧Q e a.tmps.toList w
theorem put_eqD (t:Fr)(d:Option Tmp)(v:Value):(Act.mk t.toArray ds).put d v=⟨(put t d v).toArray,ds⟩:=by
 cases d<;>simp[Act.put,put]
theorem act_eqD {a:Act}(h:a.defers=ds):a=⟨a.tmps.toList.toArray,ds⟩:=by cases a;simp_all
theorem resK_uponIn {o:Oper}{t:Fr}{K:Value→World→Prop}{Q:EP}{r:Result Next}{next:Act→World→Prop}
  (hn:∀v w',K v w'→next ⟨(put t o.dst v).toArray,ds⟩ w') (h:resK P t K Q r):o.uponIn (fen ro) n P ⟨t.toArray,ds⟩ next (liftD ds Q) r:=by
 cases r with
 | ok x w' =>
  cases x<;>simp only[resK]at h<;>simp only[Oper.uponIn]
  case value v=>rw[put_eqD];exact hn _ _ h
  case skip=>rw[put_eqD];exact hn _ _ h
  case enter f args =>
   refine⟨(fun hh=>by cases hh),callsFen (h.mono fun e w'' he=>?_)⟩;cases e with
   | returned v=>dsimp only at he ⊢;rw[put_eqD];exact hn _ _ he
   | panicked c=>exact⟨rfl,by simpa using he⟩
   | outgrown=>exact he.elim
 | halt x w' =>
  cases x<;>simp only[resK]at h<;>simp only[Oper.uponIn];exact⟨rfl,by simpa using h⟩
def noDefer (o:Oper):Bool:=match o.op with|.defer _=>false|_=>true
theorem noDefer_ne {o:Oper}(h:noDefer o=true):∀c,o.op≠.defer c:=fun c e=>by simp[noDefer,e]at h
theorem semAt_fen {o:Oper}(h:noDefer o=true)(ro:Option Nat)(ρ:Operand→Value):Oper.semAt ro ρ o=execOp ρ o:=Oper.semAt_eq ro ρ o (noDefer_ne h)
theorem wpIn_of_opK {o:Oper}(hd:noDefer o=true){t:Fr}{w:World}{K:Value→World→Prop}{Q:EP}{next:Act→World→Prop}
  (hn:∀v w',K v w'→next ⟨(put t o.dst v).toArray,ds⟩ w') (h:opK P o t w K Q .mk):o.wpIn (fen ro) n P ⟨t.toArray,ds⟩ w next (liftD ds Q):=by
 have h':=opK_ok h;unfold runK at h';refine⟨fun _ _=>trivial,?_⟩;rw[semAt_fen hd,ev_eq];exact resK_uponIn hn h'
theorem vcOpsIn_ok {ops:List Oper}{K:Fr→World→Prop}{Q:EP}{next:Exit→Act→World→Prop}(rest:List Oper)(hn:∀t w,K t w→wpListIn (fen ro) n P ops.toArray next rest ⟨t.toArray,ds⟩ w)(hq:∀e a w,liftD ds Q e a w→next e a w) :
  ∀(l:List Oper),l.all noDefer=true→∀(t:Fr) (w:World),vcOps P ops K Q l t w .mk→wpListIn (fen ro) n P ops.toArray next (l++rest) ⟨t.toArray,ds⟩ w
 | [],_,t,w,h=>hn t w h
 | o::r,hd,t,w,h=>by
  simp only[List.all_cons,Bool.and_eq_true]at hd;rw[List.cons_append];have step:∀(t':Fr),Region.wanted o (yielded ops.toArray t'.toArray)=true→opK P o t' w (fun v w'=>vcOps P ops K Q r (put t' o.dst v) w' .mk) Q .mk→wpListIn (fen ro) n P ops.toArray next (o::(r++rest)) ⟨t'.toArray,ds⟩ w:=fun t' hw h'=>by
   unfold wpListIn;rw[if_pos hw]
   have:=wpIn_of_opK (ro:=ro) (n:=n) (ds:=ds) hd.1 (next:=wpListIn (fen ro) n P ops.toArray next (r++rest)) (fun v w' hk=>vcOpsIn_ok rest hn hq r hd.2 _ w' hk) h'
   refine⟨this.1,?_⟩;have h2:=this.2;generalize (Oper.semAt _ _ o).run P w=res at h2 ⊢
   cases res with
   | ok x w' =>
    cases x<;>simp only[Oper.uponIn]at h2 ⊢<;>first|exact h2|skip
    ·exact⟨h2.1,h2.2.mono fun e w'' he=>by
      cases e with
      | returned v=>exact he
      | panicked c=>exact hq _ _ _ he
      | outgrown=>obtain⟨a₀,w₀,hh⟩:=he;exact⟨a₀,w₀,hq _ _ _ hh⟩⟩
    ·exact⟨h2.1,h2.2.mono fun e w'' he=>by
      cases e with
      | returned v=>exact he
      | panicked c=>exact hq _ _ _ he
      | outgrown=>obtain⟨a₀,w₀,hh⟩:=he;exact⟨a₀,w₀,hq _ _ _ hh⟩⟩
   | halt x w'=>cases x<;>simp only[Oper.uponIn]at h2 ⊢<;>first|exact h2|exact hq _ _ _ h2
  have skip:∀(t':Fr),Region.wanted o (yielded ops.toArray t'.toArray)=false→vcOps P ops K Q r (put t' o.dst undef) w .mk→wpListIn (fen ro) n P ops.toArray next (o::(r++rest)) ⟨t'.toArray,ds⟩ w:=fun t' hw h'=>by
   unfold wpListIn;rw[if_neg (by rw[hw];simp),put_eqD];exact⟨fun _ _=>trivial,vcOpsIn_ok rest hn hq r hd.2 _ w h'⟩
  simp only[vcOps]at h;split at h
  ·rename_i hg;exact step t (by simp[Region.wanted,hg]) h
  ·rename_i j want hg;have hwant:∀t':Fr,Region.wanted o (yielded ops.toArray t'.toArray)=(yielded ops.toArray t'.toArray j == some want):=fun t'=>by simp only[Region.wanted,hg]
   unfold guardK at h;split at h
   ·rename_i hs;exact skip t (by rw[hwant,yielded_eq,hs];rfl) h
   ·rename_i s hs;split at h
    ·rename_i b hb;have hlt:s<t.length:=by
      rcases Nat.lt_or_ge s t.length with h'|h'
      ·exact h'
      ·simp[List.getD_eq_getElem?_getD,List.getElem?_eq_none h',undef]at hb
     have hv:t[s]?=some (.bool b):=by
      rw[List.getD_eq_getElem?_getD]at hb;rw[List.getElem?_eq_getElem hlt]at hb ⊢
      simpa using hb
     have hy:yielded ops.toArray t.toArray j=some b:=by rw[yielded_eq,hs];simp[hv]
     have same:=set_getD_same t s hlt;rw[hb]at same;by_cases hbw:b=want
     ·subst hbw;have h1:=h.1 rfl;rw[same]at h1;exact step t (by rw[hwant,hy];simp) h1
     ·have hbn:b=!want:=by cases b<;>cases want<;>simp_all
      have h2:=h.2 hbn;rw[←hbn,same]at h2;exact skip t (by rw[hwant,hy];simpa using hbw) h2
    ·rename_i hb;refine skip t ?_ h;rw[hwant,yielded_eq,hs];simp only[Option.bind_some];cases hv:t[s]? with
     | none=>rfl
     | some v =>
      have:t.getD s undef=v:=by rw[List.getD_eq_getElem?_getD,hv];rfl
      rw[this]at hb;cases v<;>simp at hb ⊢
def plainB:Code→Bool
 | .skip|.exit _|.ret|.label _|.goto _=>true
 | .region _ ops false=>ops.toList.all noDefer
 | .seq a b=>plainB a && plainB b
 | .cond _ a b=>plainB a && plainB b
 | .block _ c=>plainB c
 | _=>false
theorem vcIn_ok:∀(c:Code),plainB c=true→∀(Q:EP) (t:Fr) (w:World),vc P c Q t w .mk→c.wpIn (fen ro) n P (liftD ds Q) ⟨t.toArray,ds⟩ w
 | .skip,_,_,_,_,h=>wpIn_skip ⟨rfl,by simpa[vc] using h⟩
 | .region _ ops false,hp,Q,t,w,h=>by
  refine wpIn_region_list ?_
  have:=vcOpsIn_ok (P:=P) (n:=n) (ro:=ro) (ds:=ds) (ops:=ops.toList) (K:=Q .normal) (Q:=Q) (next:=liftD ds Q) [] (fun t w hk=>⟨rfl,by simpa using hk⟩) (fun _ _ _ h=>h) ops.toList hp t w h
  simpa using this
 | .seq a b,hp,Q,t,w,h=>by
  simp only[plainB,Bool.and_eq_true]at hp;refine wpIn_seq (Code.wpIn_mono ?_ (vcIn_ok a hp.1 _ t w h));rintro e a' w' ⟨hd,hh⟩;cases e<;>simp only[seqQ]at hh<;>simp only[Exit.then]<;>first|exact⟨hd,hh⟩|skip
  have:=vcIn_ok b hp.2 Q _ w' hh;rw[act_eqD hd];exact this
 | .cond c a b,hp,Q,t,w,h=>by
  simp only[plainB,Bool.and_eq_true]at hp;simp only[vc]at h;unfold condK at h;split at h
  ·rename_i x hx;exact wpIn_cond_split (t:=x) (by rw[ev_eq];exact hx) (fun hx'=>vcIn_ok a hp.1 Q t w (h.1 hx')) (fun hx'=>vcIn_ok b hp.2 Q t w (h.2 hx'))
  ·exact h.elim
 | .block i c,hp,Q,t,w,h=>by
  refine wpIn_block (Code.wpIn_mono ?_ (vcIn_ok c hp _ t w h));rintro e a' w' ⟨hd,hh⟩;cases e<;>simp only[blockQ]at hh<;>simp only[Exit.inBlock]<;>first|exact⟨hd,hh⟩|skip
  split at hh
  ·rename_i e;simp only[e,if_true];exact⟨hd,hh⟩
  ·rename_i e;simp only[e,if_false];exact⟨hd,hh⟩
 | .exit i,_,_,_,_,h=>wpIn_exit ⟨rfl,by simpa[vc] using h⟩
 | .ret,_,_,_,_,h=>wpIn_ret ⟨rfl,by simpa[vc] using h⟩
 | .label _,_,_,_,_,h=>wpIn_label ⟨rfl,by simpa[vc] using h⟩
 | .goto l,_,_,_,_,h=>wpIn_goto ⟨rfl,by simpa[vc] using h⟩
 | .region _ _ true,hp,_,_,_,_=>by cases hp
 | .loop _,hp,_,_,_,_=>by cases hp
 | .scope _,hp,_,_,_,_=>by cases hp
 | .rangeFunc ..,hp,_,_,_,_=>by cases hp
 | .refuse _,hp,_,_,_,_=>by cases hp
def roundQ {α:Type}(Z:Nat→Prop)(I:List α→World→Prop)(Ix:Code→List α→World→Prop)(xs:List α)(W:World):Exit→Act→World→Prop
 | .normal,_,W'=>(∀k,Z k→W'.heap[k]?=W.heap[k]?)∧I xs W'
 | .ret,_,W'=>(∀k,Z k→W'.heap[k]?=W.heap[k]?)∧Ix .ret xs W'
 | .exit id,_,W'=>(∀k,Z k→W'.heap[k]?=W.heap[k]?)∧Ix (.exit id) xs W'
 | .goto t,_,W'=>(∀k,Z k→W'.heap[k]?=W.heap[k]?)∧Ix (.goto t) xs W'
 | _,_,_=>False
theorem keptPut {X:Nat→Prop}(W:World)(l:Nat)(o:Obj)(hX:X l):Kept X W (W.putObj l o) :=
 ⟨rfl,rfl,rfl,by simp,fun k _ hk=>World.putObj_heap_other (fun e=>hk (by rw[e];exact hX))⟩
def Iter (P:Program)(n:Nat){α:Type}(gf:Nat)(lb:Array Value)(encs:α→Array Value)(B Z:Nat→Prop)(S Sp:List α→Prop)(A:List α→α→Prop)(w:World):Prop :=
 ∀(l:Nat) (J Jx:List α→World→Prop) (W:World),(∀k,k<w.heap.size→W.heap[k]?=w.heap[k]?)→w.heap.size≤W.heap.size→(∀s A A',J s A→Kept B A A'→J s A')→(∀s A A',Jx s A→Kept B A A'→Jx s A') →
  (∀pre x W1,J pre W1→A pre x→YieldAt Fence.wide n P l (encs x) W1 fun e W' =>
   (e=.returned (.bool true)∧J (pre++[x]) W'∧(∀k,Z k→W'.heap[k]?=W1.heap[k]?)∧W1.heap.size≤W'.heap.size)∨(e=.returned (.bool false)∧Jx (pre++[x]) W')) →
  J [] W→CallsIn Fence.wide n P gf (#[.func (.yield l) #[] #[]]++lb) W fun e W'=>(∃v,e=.returned v)∧((∃xs,S xs∧J xs W')∨(∃pre,Sp pre∧Jx pre W'))
theorem rangeK {α:Type}{g:Operand}{ps:Array Tmp}{assign body:Code}{Q:Exit→Act→World→Prop}{a:Act}{w:World}{gf:Nat}{lb:Array Value}(hg:a.eval g=.func (.func gf) #[] lb)(eg:∀args w,(callFunc gf args).run P w=.ok (.enter gf args) w)
  {encs:α→Array Value} (hps:∀x,(encs x).size=ps.size) {B Z:Nat→Prop} {S Sp:List α→Prop} {A:List α→α→Prop} (hB:∀k,B k→k<w.heap.size) (hZ:∀k,Z k→k<w.heap.size) (hseq:Iter P (n-1) gf lb encs B Z S Sp A w)
  (I:List α→World→Prop) (Ix:Code→List α→World→Prop) (hI:∀s W W',I s W→Kept (fun k=>B k∨k=w.heap.size∨k=w.heap.size+1) W W'→I s W') (hIx:∀c s W W',Ix c s W→Kept (fun k=>B k∨k=w.heap.size∨k=w.heap.size+1) W W'→Ix c s W') (h0:I [] w) (a₁:α→Act)
  (hassign:∀(x:α) (W:World) (K:Act→World→Prop),K (a₁ x) W →
   assign.wpIn (fen (some (w.heap.size+1))) (n-1) P (Exit.then K (fun _ _ _=>False)) { tmps:=(ps.zip (encs x)).foldl (fun t (p,v)=>t.setIfInBounds p v) a.tmps,defers:=[] } W)
  (hbody:∀(pre:List α) (x:α) (W:World),I pre W→A pre x→w.heap.size+1<W.heap.size→body.wpIn (fen (some (w.heap.size+1))) (n-1) P (fun e a' W'=>W.heap.size≤W'.heap.size∧roundQ (fun k=>Z k∨k=w.heap.size∨k=w.heap.size+1) I Ix (pre++[x]) W e a' W') (a₁ x) W)
  (hdone:∀(xs:List α) (W:World),S xs→I xs W→W.heap[w.heap.size]?=some (.deferred (some []))→Q .normal { a with defers:={ target:=.collected w.heap.size,args:=#[] }::a.defers } W)
  (hstop:∀(c:Code) (pre:List α) (W:World),Sp pre→Ix c pre W→W.heap[w.heap.size]?=some (.deferred (some []))→c.wpIn Fence.wide n P Q { a with defers:={ target:=.collected w.heap.size,args:=#[] }::a.defers } W) :
  (Code.rangeFunc g ps assign body).wpIn Fence.wide n P Q a w:=by
 refine wpIn_rangeFunc ?_;intro fn _;have hrec:∃rec:LoopState→Option Code→Loop,rec=fun st pe=>{ state:=st,pending:=pe,fn,tmps:=a.tmps,params:=ps,assign,body,defers:=w.heap.size }:=⟨_,rfl⟩;obtain⟨rec,hrec⟩:=hrec;have hg1:∃W1,(w.alloc (.deferred (some []))).alloc (.loop (rec .ready none))=W1:=⟨_,rfl⟩;obtain⟨W1,hW1⟩:=hg1;have sz1:W1.heap.size=w.heap.size+1+1:=by rw[←hW1];simp
 have hL1:W1.heap[w.heap.size+1]?=some (.loop (rec .ready none)):=by
  rw[←hW1]
  have:=World.alloc_heap_new (w.alloc (.deferred (some []))) (.loop (rec .ready none));rwa [World.size_alloc]at this
 have hK1:W1.heap[w.heap.size]?=some (.deferred (some [])):=by
  rw[←hW1];exact(Below.heap_alloc _ _ _ (by simp)).trans (World.alloc_heap_new w _)
 have hk1:∀k,k<w.heap.size→W1.heap[k]?=w.heap[k]?:=fun k hk=>by
  rw[←hW1];exact(Below.heap_alloc _ _ _ (by simp;omega)).trans (Below.heap_alloc _ _ _ hk)
 have hkept:Kept (fun k=>B k∨k=w.heap.size∨k=w.heap.size+1) w W1:=⟨by rw[←hW1];rfl,by rw[←hW1];rfl,by rw[←hW1];rfl,by omega,fun k hk _=>hk1 k hk⟩;have hbook:∀{W:World} (o:Obj),Kept (fun k=>B k∨k=w.heap.size∨k=w.heap.size+1) W (W.putObj (w.heap.size+1) o):=fun o=>keptPut _ _ _ (.inr (.inr rfl));have hne:∀{k:Nat},B k→k≠w.heap.size∧k≠w.heap.size+1:=fun {k} hk=>by have:=hB k hk;omega
 refine⟨w.heap.size+1,[{ target:=.collected w.heap.size,args:=#[] }],W1,{ target:=.fn (.func gf) lb,args:=#[.func (.yield (w.heap.size+1)) #[] #[]] },W1,gf,
  #[.func (.yield (w.heap.size+1)) #[] #[]]++lb,W1,?_,?_,fun _ _=>trivial,?_,(fun hh=>by cases hh),?_⟩
 ·rw[←hW1,hrec];exact run_enterLoop_outer _ _ _ _ _
 ·simp only[resolve,hg];simp[go_sem]
 ·simp[invoke,go_sem,eg]
 ·refine(hseq (w.heap.size+1)
   (fun pre W=>I pre W∧W.heap[w.heap.size+1]?=some (.loop (rec .ready none))∧W.heap[w.heap.size]?=some (.deferred (some [])))
   (fun pre W=>∃c,Ix c pre W∧W.heap[w.heap.size+1]?=some (.loop (rec .done (some c)))∧W.heap[w.heap.size]?=some (.deferred (some [])))
   W1 hk1 (by omega) ?_ ?_ ?_ ⟨hI _ _ _ h0 hkept,hL1,hK1⟩).mono ?_
  ·rintro s A A' ⟨h1,h2,h3⟩ hk;exact⟨hI _ _ _ h1 (hk.weaken (fun i _ h=>.inl h)),(hk.block _ (Array.getElem?_eq_some_iff.1 h2).1 (fun h=>(hne h).2 rfl)).trans h2,(hk.block _ (Array.getElem?_eq_some_iff.1 h3).1 (fun h=>(hne h).1 rfl)).trans h3⟩
  ·rintro s A A' ⟨c,h1,h2,h3⟩ hk;exact⟨c,hIx _ _ _ _ h1 (hk.weaken (fun i _ h=>.inl h)),(hk.block _ (Array.getElem?_eq_some_iff.1 h2).1 (fun h=>(hne h).2 rfl)).trans h2,(hk.block _ (Array.getElem?_eq_some_iff.1 h3).1 (fun h=>(hne h).1 rfl)).trans h3⟩
  ·rintro pre x W ⟨hi,hl,hk⟩ hlen;have hlt:w.heap.size+1<W.heap.size:=(Array.getElem?_eq_some_iff.1 hl).1;have hy:=run_yield (P:=P) (args:=encs x) hl (by rw[hrec];exact hps x);rw[hrec]at hy;refine⟨fn,_,assign,body,hy,roundIn_of_wpIn trivial (hassign x W _ ⟨_,run_beginRound hl (by rw[hrec]),?_⟩)⟩;have hgV:∃V,W.putObj (w.heap.size+1) (.loop { rec .ready none with state:=.busy })=V:=⟨_,rfl⟩;obtain⟨V,hV⟩:=hgV;have hVl:V.heap[w.heap.size+1]?=some (.loop { rec .ready none with state:=.busy }):=by rw[←hV];exact World.putObj_heap_same hlt
   have hVk:V.heap[w.heap.size]?=some (.deferred (some [])):=by rw[←hV];exact(World.putObj_heap_other (by omega)).trans hk
   have hVs:V.heap.size=W.heap.size:=by rw[←hV];simp
   have hVo:∀k,k≠w.heap.size+1→V.heap[k]?=W.heap[k]?:=fun k h=>by rw[←hV];exact World.putObj_heap_other h
   rw[hV];refine wpIn_mono (hbody pre x V (by rw[←hV];exact hI _ _ _ hi (hbook _)) hlen (by omega)) ?_;have fin:∀(jump:Option Code) (W3:World),V.heap.size≤W3.heap.size→(∀k,Z k∨k=w.heap.size∨k=w.heap.size+1→W3.heap[k]?=V.heap[k]?) →
     (Instr.endRound (w.heap.size+1) jump).run P W3=.ok (.bool jump.isNone) (W3.putObj (w.heap.size+1) (.loop (rec (if jump.isNone then .ready else .done) jump))) ∧
     (W3.putObj (w.heap.size+1) (.loop (rec (if jump.isNone then .ready else .done) jump))).heap[w.heap.size+1]?=some (.loop (rec (if jump.isNone then .ready else .done) jump)) ∧
     (W3.putObj (w.heap.size+1) (.loop (rec (if jump.isNone then .ready else .done) jump))).heap[w.heap.size]?=some (.deferred (some [])) ∧
     ∀k,Z k→(W3.putObj (w.heap.size+1) (.loop (rec (if jump.isNone then .ready else .done) jump))).heap[k]?=W.heap[k]?:=fun jump W3 hs3 hz3=>by
    have hl3:=(hz3 _ (.inr (.inr rfl))).trans hVl;have hr:=run_endRound (P:=P) jump hl3;rw[hrec]at hr ⊢
    refine⟨hr,World.putObj_heap_same (by omega),(World.putObj_heap_other (by omega)).trans ((hz3 _ (.inr (.inl rfl))).trans hVk),fun k hk=>?_⟩
    have:=hZ k hk;exact(World.putObj_heap_other (by omega)).trans ((hz3 k (.inl hk)).trans (hVo k (by omega)))
   rintro e a3 W3 ⟨hs3,hp⟩;cases e with
   | normal =>
    obtain⟨hz3,hi3⟩:=hp;obtain⟨hr,hl4,hk4,hz4⟩:=fin none W3 hs3 hz3;exact⟨_,_,hr,.inl ⟨rfl,⟨hI _ _ _ hi3 (hbook _),hl4,hk4⟩,hz4,by simp;omega⟩⟩
   | ret =>
    obtain⟨hz3,hi3⟩:=hp;obtain⟨hr,hl4,hk4,hz4⟩:=fin (some .ret) W3 hs3 hz3;exact⟨_,_,hr,.inr ⟨rfl,.ret,hIx _ _ _ _ hi3 (hbook _),hl4,hk4⟩⟩
   | exit id =>
    obtain⟨hz3,hi3⟩:=hp;obtain⟨hr,hl4,hk4,hz4⟩:=fin (some (.exit id)) W3 hs3 hz3;exact⟨_,_,hr,.inr ⟨rfl,.exit id,hIx _ _ _ _ hi3 (hbook _),hl4,hk4⟩⟩
   | goto t =>
    obtain⟨hz3,hi3⟩:=hp;obtain⟨hr,hl4,hk4,hz4⟩:=fin (some (.goto t)) W3 hs3 hz3;exact⟨_,_,hr,.inr ⟨rfl,.goto t,hIx _ _ _ _ hi3 (hbook _),hl4,hk4⟩⟩
   | panic ch=>exact hp.elim
   | outgrown=>exact hp.elim
  ·rintro e W2 ⟨⟨v,rfl⟩,(⟨xs,hS,hi,hl,hk⟩|⟨pre,hSp,c,hi,hl,hk⟩)⟩
   ·have hr:=run_endLoop (P:=P) hl (by rw[hrec];simp);rw[hrec]at hr;exact⟨none,_,hr,hdone xs _ hS (hI _ _ _ hi (hbook _)) ((World.putObj_heap_other (by omega)).trans hk)⟩
   ·have hr:=run_endLoop (P:=P) hl (by rw[hrec];simp);rw[hrec]at hr;exact⟨some c,_,hr,hstop c pre _ hSp (hIx _ _ _ _ hi (hbook _)) ((World.putObj_heap_other (by omega)).trans hk)⟩
theorem plainIn {c:Code}(hp:plainB c=true){Q:Exit→Act→World→Prop}{t:Fr}{w:World}(h:vc P c (fun e t w=>Q e ⟨t.toArray,ds⟩ w) t w .mk):c.wpIn (fen ro) n P Q ⟨t.toArray,ds⟩ w :=
 wpIn_mono (vcIn_ok c hp _ t w h) (by rintro e a w' ⟨hd,hh⟩;rw[act_eqD hd];exact hh)
theorem seqIn {a b:Code}(hp:plainB a=true){Q:Exit→Act→World→Prop}{t:Fr}{w:World}(h:vc P a (seqQ (fun t w=>b.wpIn (fen ro) n P Q ⟨t.toArray,ds⟩ w) (fun e t w=>Q e ⟨t.toArray,ds⟩ w) .mk) t w .mk):(Code.seq a b).wpIn (fen ro) n P Q ⟨t.toArray,ds⟩ w:=by
 refine wpIn_seq (wpIn_mono (vcIn_ok a hp _ t w h) ?_);rintro e a' w' ⟨hd,hh⟩;cases e<;>simp only[seqQ]at hh<;>simp only[Exit.then]<;>(rw[act_eqD hd];exact hh)
theorem roundWide {m m' l:Nat}{f:FuncId}{tmps:Array Value}{assign body:Code}{w:World}{R:Ending→World→Prop}(h:RoundIn Fence.wide m P l f tmps assign body w R):RoundIn (fen none) m' P l f tmps assign body w R :=
 ⟨trivial,fun c cs _=>h.2 c cs (room_wide _)⟩
theorem yieldRegion {id l m:Nat}{l1 l2:List Oper}{o:Oper}{x:Operand}{args:Array Operand}{ats:Array TypeId}{Q:Exit→Act→World→Prop}{t:Fr}{w:World}(hp1:l1.all noDefer=true)(hp2:l2.all noDefer=true)(ho:o.op=.call { callee:=.value x,args,argTypes:=ats })(hg:o.guard=none)
  (h:vcOps P (l1++o::l2) (fun t w=>ev t x=.func (.yield l) #[] #[]∧∃R,YieldAt Fence.wide m P l (args.toList.map (ev t)).toArray w R∧∀e w',R e w'→∃b,e=.returned (.bool b)∧vcOps P (l1++o::l2) (fun t w=>Q .normal ⟨t.toArray,ds⟩ w) (fun e t w=>Q e ⟨t.toArray,ds⟩ w) l2 (put t o.dst (.bool b)) w' .mk) (fun e t w=>Q e ⟨t.toArray,ds⟩ w) l1 t w .mk) :
  (Code.region id (l1++o::l2).toArray false).wpIn (fen none) n P Q ⟨t.toArray,ds⟩ w:=by
 refine wpIn_region_list ?_;rw[List.toList_toArray];refine vcOpsIn_ok (ro:=none) (o::l2) ?_ (fun e a w hh=>by rw[act_eqD hh.1];exact hh.2) l1 hp1 t w h;rintro t1 w1 ⟨hx,R,⟨fn,tmps,assign,body,hy,hR⟩,hk⟩;unfold wpListIn;rw[if_pos (by simp[Region.wanted,hg])];refine⟨fun _ _=>trivial,?_⟩;rw[semAt_fen (by simp[noDefer,ho]),ev_eq];have he:(execOp (ev t1) o).run P w1=.ok (.round l fn tmps assign body) w1:=by
  unfold execOp;simp only[ho];have hy':(Instr.yield l (args.map (ev t1))).run P w1=.ok (.round l fn tmps assign body) w1:=by rw[show args.map (ev t1)=(args.toList.map (ev t1)).toArray by rw[←Array.toList_map]];exact hy
  simp[resolve,hx,invoke,go_sem,hy']
 rw[he];refine⟨(fun hh=>by cases hh),(roundWide hR).mono fun e w' hr=>?_⟩;obtain⟨b,rfl,hb⟩:=hk e w' hr
 show wpListIn _ _ _ _ _ _ _ _
 rw[put_eqD]
 have:=vcOpsIn_ok (P:=P) (n:=n) (ro:=none) (ds:=ds) (ops:=l1++o::l2) (next:=Q) [] (fun t w hh=>hh) (fun e a w hh=>by rw[act_eqD hh.1];exact hh.2) l2 hp2 _ w' hb
 simpa using this
theorem loopIn {c:Code}{Q:Exit→Act→World→Prop}{t:Fr}{w:World}(M:List Nat)(I:(Nat→Value)→World→Prop)(μ:(Nat→Value)→World→Nat)(h0:I (at_ t) w)
  (hr:∀z w',I z w'→c.wpIn (fen ro) n P (fun e a' w''=>match e with|.normal=>a'.defers=ds∧a'.tmps.toList=ov t M (at_ a'.tmps.toList)∧I (at_ a'.tmps.toList) w''∧μ (at_ a'.tmps.toList) w''<μ z w'|e=>Q e a' w'') ⟨(ov t M z).toArray,ds⟩ w'):(Code.loop c).wpIn (fen ro) n P Q ⟨t.toArray,ds⟩ w:=by
 refine wpIn_loop (fun a w'=>a.defers=ds∧a.tmps.toList=ov t M (at_ a.tmps.toList)∧I (at_ a.tmps.toList) w') (fun a w'=>μ (at_ a.tmps.toList) w') ⟨rfl,by simp[ov_at],by simpa using h0⟩ ?_;rintro a w' ⟨hd,ht,hI⟩;have h1:=hr _ w' hI;rw[←ht]at h1;rw[act_eqD hd];refine wpIn_mono h1 ?_;intro e a' w'' hh;cases e<;>simp only[Exit.then]<;>first|exact hh|skip
 obtain⟨hd',h1,h2,h3⟩:=hh;exact⟨⟨hd',h1,h2⟩,by simpa using h3⟩
theorem leave0 {fn:Func}{rs:List ResultVar}{R:VK}(hrs:fn.results=rs.toArray){t:Fr}{w:World}(h:retC P rs R .mk .ret t w):bodyPostM Fence.wide n P fn (fun e w'=>∃v,e=.returned v∧R v w') .ret ⟨t.toArray,[]⟩ w:=by
 obtain⟨vs,hv,hk⟩:=resultsC_run fn rs hrs t _ h;exact⟨_,hv,_,rfl,hk⟩
theorem leaveD {fn:Func}{rs:List ResultVar}{R:VK}(hrs:fn.results=rs.toArray){t:Fr}{w:World}{D:Nat}(hD:w.heap[D]?=some (.deferred (some [])))(h:retC P rs R .mk .ret t (w.putObj D (.deferred none))):bodyPostM Fence.wide n P fn (fun e w'=>∃v,e=.returned v∧R v w') .ret ⟨t.toArray,[{ target:=.collected D,args:=#[] }]⟩ w:=by
 obtain⟨vs,hv,hk⟩:=resultsC_run fn rs hrs t _ h;exact⟨by simp,.inl ⟨_,_,rfl,run_takeDeferred hD,_,hv,_,rfl,hk⟩⟩
theorem fun_of_in {f:FuncId}{fn:Func}{c:Code}{args:List Value}{w:World}{R:VK}(hf:P.funcs[f]?=some fn)(hb:fn.body=some c)(hn:(fn.name == "runtime.NumGoroutine")=false)
  (h:c.wpIn (fen none) 0 P (bodyPostM Fence.wide 0 P fn (fun e w'=>∃v,e=.returned v∧R v w')) ⟨(fr0 args fn.ntmps).toArray,[]⟩ w):Fun P f args w R:=by
 refine⟨callFunc_enter hf (by simp[hb]) hn,(callsIn_wide (n:=0)).1 (callsIn_of_wp_marks hf hb trivial ?_ rfl)⟩;have e:(args.toArray++Array.replicate (fn.ntmps-args.toArray.size) undef)=(fr0 args fn.ntmps).toArray:=by simp[fr0]
 rw[e];exact h
theorem condF {F:Fence}{c:Operand}{x y:Code}{Q:Exit→Act→World→Prop}{t:Fr}{w:World}(hc:ev t c=.bool false)(h:y.wpIn F n P Q ⟨t.toArray,ds⟩ w):(Code.cond c x y).wpIn F n P Q ⟨t.toArray,ds⟩ w :=
 wpIn_cond_false (by rw[ev_eq];exact hc) h
theorem condT {F:Fence}{c:Operand}{x y:Code}{Q:Exit→Act→World→Prop}{t:Fr}{w:World}(hc:ev t c=.bool true)(h:x.wpIn F n P Q ⟨t.toArray,ds⟩ w):(Code.cond c x y).wpIn F n P Q ⟨t.toArray,ds⟩ w :=
 wpIn_cond_true (by rw[ev_eq];exact hc) h
theorem then_n {K:Act→World→Prop}{Q:Exit→Act→World→Prop}{a:Act}{w:World}:Exit.then K Q .normal a w=K a w:=(rfl)
theorem then_r {K:Act→World→Prop}{Q:Exit→Act→World→Prop}{a:Act}{w:World}:Exit.then K Q .ret a w=Q .ret a w:=(rfl)
theorem then_e {K:Act→World→Prop}{Q:Exit→Act→World→Prop}{a:Act}{w:World}(i:Nat):Exit.then K Q (.exit i) a w=Q (.exit i) a w:=(rfl)
theorem inBlock_n {i:Nat}{Q:Exit→Act→World→Prop}{a:Act}{w:World}:Exit.inBlock i Q .normal a w=Q .normal a w:=(rfl)
theorem inBlock_r {i:Nat}{Q:Exit→Act→World→Prop}{a:Act}{w:World}:Exit.inBlock i Q .ret a w=Q .ret a w:=(rfl)
theorem inBlock_e {i j:Nat}{Q:Exit→Act→World→Prop}{a:Act}{w:World}:Exit.inBlock i Q (.exit j) a w=if j=i then Q .normal a w else Q (.exit j) a w:=(rfl)
theorem zip1 (p:Tmp)(v:Value)(t:Fr):((#[p]:Array Tmp).zip #[v]).foldl (fun t (x:Tmp×Value)=>t.setIfInBounds x.1 x.2) t.toArray=(t.set p v).toArray:=by
 simp
theorem roundQ_n {α:Type}{Z:Nat→Prop}{I:List α→World→Prop}{Ix:Code→List α→World→Prop}{xs:List α}{W W':World}{a:Act}:roundQ Z I Ix xs W .normal a W'=((∀k,Z k→W'.heap[k]?=W.heap[k]?)∧I xs W'):=(rfl)
theorem roundQ_r {α:Type}{Z:Nat→Prop}{I:List α→World→Prop}{Ix:Code→List α→World→Prop}{xs:List α}{W W':World}{a:Act}:roundQ Z I Ix xs W .ret a W'=((∀k,Z k→W'.heap[k]?=W.heap[k]?)∧Ix .ret xs W'):=(rfl)
theorem roundQ_e {α:Type}{Z:Nat→Prop}{I:List α→World→Prop}{Ix:Code→List α→World→Prop}{xs:List α}{W W':World}{a:Act}(i:Nat):roundQ Z I Ix xs W (.exit i) a W'=((∀k,Z k→W'.heap[k]?=W.heap[k]?)∧Ix (.exit i) xs W'):=(rfl)
theorem rangeV {α:Type}{g:Operand}{q:Tmp}{assign body:Code}{Q:Exit→Act→World→Prop}{t:Fr}{w:World}{gf:Nat}{lb:List Value}(hg:ev t g=.func (.func gf) #[] lb.toArray)(eg:∀args w,(callFunc gf args).run P w=.ok (.enter gf args) w)
  {en:α→Value} {B Z:Nat→Prop} {S Sp:List α→Prop} {A:List α→α→Prop} (hB:∀k,B k→k<w.heap.size) (hZ:∀k,Z k→k<w.heap.size) (hseq:Iter P (n-1) gf lb.toArray (fun x=>#[en x]) B Z S Sp A w)
  (I:List α→World→Prop) (Ix:Code→List α→World→Prop) (hI:∀s W W',I s W→Kept (fun k=>B k∨k=w.heap.size∨k=w.heap.size+1) W W'→I s W') (hIx:∀c s W W',Ix c s W→Kept (fun k=>B k∨k=w.heap.size∨k=w.heap.size+1) W W'→Ix c s W') (h0:I [] w) (d:Nat)
  (pa:plainB assign=true) (pb:plainB body=true) (hassign:∀(x:α) (W:World),vc P assign (fun e t' W'=>e=.normal∧t'=((t.set q (en x)).set d (en x))∧W'=W) (t.set q (en x)) W .mk)
  (hbody:∀(pre:List α) (x:α) (W:World),I pre W→A pre x→w.heap.size+1<W.heap.size→vc P body (fun e t' W'=>W.heap.size≤W'.heap.size∧roundQ (fun k=>Z k∨k=w.heap.size∨k=w.heap.size+1) I Ix (pre++[x]) W e ⟨t'.toArray,[]⟩ W') (((t.set q (en x)).set d (en x))) W .mk)
  (hdone:∀(xs:List α) (W:World),S xs→I xs W→W.heap[w.heap.size]?=some (.deferred (some []))→Q .normal ⟨t.toArray,{ target:=.collected w.heap.size,args:=#[] }::ds⟩ W)
  (hstop:∀(c:Code) (pre:List α) (W:World),Sp pre→Ix c pre W→W.heap[w.heap.size]?=some (.deferred (some []))→c.wpIn (fen none) n P Q ⟨t.toArray,{ target:=.collected w.heap.size,args:=#[] }::ds⟩ W) :
  (Code.rangeFunc g #[q] assign body).wpIn (fen none) n P Q ⟨t.toArray,ds⟩ w:=by
 refine rangeK (a:=⟨t.toArray,ds⟩) (by rw[ev_eq];exact hg) eg (encs:=fun x=>#[en x]) (fun _=>rfl) hB hZ hseq I Ix hI hIx h0 (fun x=>⟨((t.set q (en x)).set d (en x)).toArray,[]⟩) ?_ ?_ hdone hstop
 ·intro x W K hK;have e:(((#[q]:Array Tmp).zip #[en x]).foldl (fun t (x:Tmp×Value)=>t.setIfInBounds x.1 x.2) t.toArray)=(t.set q (en x)).toArray:=zip1 q (en x) t
  show assign.wpIn _ _ _ _ ⟨(((#[q]:Array Tmp).zip #[en x]).foldl (fun t (x:Tmp×Value)=>t.setIfInBounds x.1 x.2) t.toArray),[]⟩ _
  rw[e];refine wpIn_mono (vcIn_ok (ds:=[]) assign pa _ _ _ (hassign x W)) ?_;rintro e a w' ⟨hd,rfl,ht,rfl⟩
  show K a w'
  rw[act_eqD hd,ht];exact hK
 ·intro pre x W h1 h2 h3;refine wpIn_mono (vcIn_ok (ds:=[]) body pb _ _ _ (hbody pre x W h1 h2 h3)) ?_;rintro e a w' ⟨hd,h4,h5⟩;refine⟨h4,?_⟩;rw[act_eqD hd];exact h5
end
attribute [push_cast] then_n then_r then_e inBlock_n inBlock_r inBlock_e roundQ_n roundQ_r roundQ_e
end Go.Vc
end
section
namespace Go.Proofs.YtodeeahdhnjpkaaGreatDoor
open Go.Vc Go.Proofs Go.RowKit Cae
attribute [local irreducible] wpL callK valK unitK runK Fun Sl Vc.Own vc vcOps opK pureK
theorem splitSeq_c (s:List UInt8)(c:UInt8)(w:World):Fun Tryz.prog 193 [str s,str [c],.int .i64 0] w fun r w'=>r=.func (.func 224) #[] #[.pointer (some ⟨w.heap.size+1,0,none⟩),.pointer (some ⟨w.heap.size,0,none⟩),.pointer (some ⟨w.heap.size+2,0,none⟩)]∧Blk w' w.heap.size 9 [str s]∧Blk w' (w.heap.size+1) 9 [str [c]]∧Blk w' (w.heap.size+2) 3 [.int .i64 0]∧w'.heap.size=w.heap.size+3∧Below w.heap.size w w':=by
 refine fun_of_vc Tryz.func193 rfl (by kernel_rfl) [6] rfl ?_;push_cast -dsimp(maxSteps:=4000000) [Tryz.ntmps193];refine boxK_of ?_;intro w1 hw1;have sz1:=hw1.size;push_cast -dsimp;refine boxK_of ?_;intro w2 hw2;have sz2:=hw2.size;push_cast -dsimp;refine boxK_of ?_;intro w3 hw3;have sz3:=hw3.size;push_cast -dsimp[sz1,sz2];have b1:=(hw1.blk.below hw2.below (by omega)).below hw3.below (by omega);have b2:=hw2.blk.below hw3.below (by omega);have b3:=hw3.blk;rw[sz1]at b2;rw[sz2,sz1]at b3;exact⟨b1,b2,b3,by omega,(hw1.below.trans (hw2.below.mono (by omega))).trans (hw3.below.mono (by omega))⟩
theorem splitSeqs_c (s:List UInt8)(c:UInt8)(w:World):Fun Tryz.prog 162 [str s,str [c]] w fun r w'=>r=.func (.func 224) #[] #[.pointer (some ⟨w.heap.size+1,0,none⟩),.pointer (some ⟨w.heap.size,0,none⟩),.pointer (some ⟨w.heap.size+2,0,none⟩)]∧Blk w' w.heap.size 9 [str s]∧Blk w' (w.heap.size+1) 9 [str [c]]∧Blk w' (w.heap.size+2) 3 [.int .i64 0]∧w'.heap.size=w.heap.size+3∧Below w.heap.size w w':=by
 refine fun_of_vc Tryz.func162 rfl (by kernel_rfl) [4] rfl ?_;push_cast -dsimp(maxSteps:=4000000) [Tryz.ntmps162];refine callK_of (splitSeq_c s c w) ?_;rintro _ w1 ⟨rfl,h⟩;push_cast -dsimp;exact h
def rdLen (w:World)(b:Nat):Nat:=match w.cell? ⟨b,0,none⟩ with|some (.string s)=>s.size|_=>0
theorem rdLen_of {w:World}{b:Nat}{s:List UInt8}(h:w.cell? ⟨b,0,none⟩=some (str s)):rdLen w b=s.length:=by
 unfold rdLen;rw[h];rfl
theorem split_it (s:List UInt8)(c:UInt8)(hs:s.length≤1000000000)(n bs bp bv:Nat)(h1':bs≠bp)(h2':bs≠bv)(w:World)(hS:Blk w bs 9 [str s])(hP:Blk w bp 9 [str [c]])(hV:Blk w bv 3 [.int .i64 0]) :
  Iter Tryz.prog n 224 #[.pointer (some ⟨bp,0,none⟩),.pointer (some ⟨bs,0,none⟩),.pointer (some ⟨bv,0,none⟩)] (fun x:List UInt8=>#[str x]) (fun k=>k=bs) (fun k=>k=bs∨k=bp∨k=bv) (fun xs=>xs=splitB c s) (fun pre=>pre <+: splitB c s) (fun pre x=>pre++[x] <+: splitB c s) w:=by
 intro l J Jx W hW hWs hJ hJx hY h0;have hS:Blk W bs 9 [str s]:=(hW _ hS.lt).trans hS;have hP:Blk W bp 9 [str [c]]:=(hW _ hP.lt).trans hP;have hV:Blk W bv 3 [.int .i64 0]:=(hW _ hV.lt).trans hV;refine callsIn_of_wp Tryz.func224 rfl trivial ?_ rfl;have c0:W.cell? ⟨bp,0,none⟩=some (str [c]):=hP.cell rfl;simp only[Tryz.ntmps224,List.size_toArray,List.length_cons,List.length_nil,Nat.reduceAdd,Nat.reduceSub,Array.replicate_succ,Array.replicate_zero,List.push_toArray,List.append_toArray,List.nil_append,List.cons_append];refine wpIn_seq (seqIn (ro:=none) (by rfl) ?_);push_cast -dsimp[c0];refine condF (by rfl) (wpIn_skip ?_);push_cast -dsimp;refine wpIn_seq (wpIn_block (loopIn (ro:=none) [7,8,29,30,31,32,33,34,35,36,37,38,39,40,41,42,43,44,45,46,47,48] (fun z wx=>∃pre rest,pre++splitB c rest=splitB c s∧J pre wx∧Blk wx bs 9 [str rest]∧Blk wx bp 9 [str [c]]∧Blk wx bv 3 [.int .i64 0]∧rest.length≤s.length) (fun _ wx=>rdLen wx bs) ?_ ?_))
 ·exact⟨[],s,rfl,h0,hS,hP,hV,Nat.le_refl _⟩
 ·intro z wx hI;obtain⟨pre,rest,hsp,hj,hS,hP,hV,hlr⟩:=hI;have hrd:=rdLen_of (hS.cell (o:=0) rfl);have cS:wx.cell? ⟨bs,0,none⟩=some (str rest):=hS.cell rfl;have cP:wx.cell? ⟨bp,0,none⟩=some (str [c]):=hP.cell rfl;have cV:wx.cell? ⟨bv,0,none⟩=some (.int .i64 0):=hV.cell rfl;have hse:=splitB_eq c rest;refine wpIn_block (seqIn (ro:=none) (by rfl) ?_);push_cast -dsimp[cS,cP];refine callK_of (index_s rest c wx) ?_;rintro _ w1 ⟨rfl,rfl⟩;rw[ib_spec];push_cast -dsimp;refine seqIn (ro:=none) (by rfl) ?_;have fin:∀(x:Exit) (t:Fr) (w2:World),(x=.normal∨x=.ret)→((∃xs,xs=splitB c s∧J xs w2)∨∃pre,pre <+: splitB c s∧Jx pre w2)→bodyPost Tryz.prog Tryz.f224 (fun e W'=>(∃v,e=.returned v)∧((∃xs,xs=splitB c s∧J xs W')∨∃pre,pre <+: splitB c s∧Jx pre W')) x ⟨t.toArray,[]⟩ w2:=fun x t w2 hx hh=>by
   obtain⟨vs,h1,_⟩:=resultsC_run (P:=Tryz.prog) (w:=w2) Tryz.f224 [] (by rfl) t (fun _=>True) trivial;rcases hx with rfl|rfl<;>exact⟨rfl,_,h1,⟨_,rfl⟩,hh⟩
  cases hc:rest.contains c with
  | false =>
   simp only[Bool.false_eq_true,if_false];push_cast -dsimp;have hone:splitB c rest=[rest]:=by rw[hse,hc,tw_all hc];rfl
   rw[hone]at hsp;have hy:=hY pre rest w1 hj (by show pre++[rest] <+: _;rw[hsp];exact List.prefix_refl _)
   refine yieldRegion (l:=l) (m:=n) (l1:=[_,_]) (l2:=[]) (by rfl) (by rfl) (by rfl) (by rfl) ?_;push_cast -dsimp[cS];refine⟨_,hy,?_⟩;rintro e w2 hr;rcases hr with ⟨rfl,h1,_,_⟩|⟨rfl,h1⟩
   ·refine⟨true,rfl,?_⟩;exact fin .normal _ _ (.inl rfl) (.inl ⟨_,hsp,h1⟩)
   ·refine⟨false,rfl,?_⟩;exact fin .normal _ _ (.inl rfl) (.inr ⟨_,by rw[hsp];exact List.prefix_refl _,h1⟩)
  | true =>
   simp only[if_true];have hlt:=tw_lt hc;rw[hc,if_pos rfl]at hse;have hg:∃k,(rest.takeWhile (· != c)).length=k:=⟨_,rfl⟩;obtain⟨k,hk⟩:=hg;have h1:rest.takeWhile (· != c)=rest.take k:=by rw[←hk];exact(take_tw _ rest).symm
   have h2:(rest.dropWhile (· != c)).drop 1=rest.drop (k+1):=by rw[←drop_tw,List.drop_drop,hk]
   rw[h1,h2]at hse;rw[hk]at hlt ⊢
   have hge:decide ((k:Int)<0)=false:=decide_eq_false (by omega);have hy:=hY pre (rest.take k) w1 hj (by show pre++[rest.take k] <+: _;rw[←hsp,hse];exact⟨splitB c (rest.drop (k+1)),by simp⟩)
   push_cast -dsimp[hge];refine seqIn (ro:=none) (by rfl) ?_;push_cast -dsimp[cS,cV];have ek:((k:Int)+0).toNat=k:=by omega
   refine⟨by omega,by omega,?_⟩;rw[ek];refine wpIn_seq (wpIn_seq (yieldRegion (l:=l) (m:=n) (l1:=[_,_]) (l2:=[_]) (by rfl) (by rfl) (by rfl) (by rfl) ?_));push_cast -dsimp;refine⟨_,hy,?_⟩;rintro e w2 hr;have hpre:pre++[rest.take k] <+: splitB c s:=by rw[←hsp,hse];exact⟨splitB c (rest.drop (k+1)),by simp⟩
   rcases hr with ⟨rfl,h1,hz,hsz⟩|⟨rfl,h1⟩
   ·refine⟨true,rfl,?_⟩;have hS2:Blk w2 bs 9 [str rest]:=(hz _ (.inl rfl)).trans hS;have hP2:Blk w2 bp 9 [str [c]]:=(hz _ (.inr (.inl rfl))).trans hP;have hV2:Blk w2 bv 3 [.int .i64 0]:=(hz _ (.inr (.inr rfl))).trans hV;have dS:w2.cell? ⟨bs,0,none⟩=some (str rest):=hS2.cell rfl;have dP:w2.cell? ⟨bp,0,none⟩=some (str [c]):=hP2.cell rfl;push_cast -dsimp;refine condF (by rfl) (wpIn_skip ?_);push_cast -dsimp;refine plainIn (ro:=none) (by rfl) ?_;push_cast -dsimp[dS,dP];have ek1:((k:Int)+1).toNat=k+1:=by omega
    refine⟨by omega,by omega,?_⟩;rw[ek1];refine storeK_of hS2 (by simp) rfl ?_;intro w3 hw3;have hP3:=hP2.kept hw3.kept (fun h=>h1' h.symm);have hV3:=hV2.kept hw3.kept (fun h=>h2' h.symm);have hS3:Blk w3 bs 9 [str (rest.drop (k+1))]:=hw3.blk;push_cast -dsimp;refine⟨⟨_,_,by rw[List.append_assoc,List.singleton_append,←hse];exact hsp,hJ _ _ _ h1 hw3.kept,hS3,hP3,hV3,by rw[List.length_drop];omega⟩,?_⟩;rw[rdLen_of (hS3.cell (o:=0) rfl),hrd,List.length_drop];omega
   ·refine⟨false,rfl,?_⟩;push_cast -dsimp;refine condT (by rfl) (wpIn_ret ?_);push_cast -dsimp;exact fin .ret _ _ (.inr rfl) (.inr ⟨_,hpre,h1⟩)
end Go.Proofs.YtodeeahdhnjpkaaGreatDoor
end
section
namespace Cae
theorem hexP_head {n:Nat}(hn:n<4294967296):∃b r,hexP n=b::r∧isHex b=true:=by
 cases h:hexP n with
 | nil=>exact absurd h (hexP_ne n)
 | cons b r=>exact⟨b,r,rfl,hexP_all hn b (by rw[h];simp)⟩
end Cae
namespace Go.Proofs.YtodeeahdhnjpkaaGreatDoor
open Go.Vc Go.Proofs Go.RowKit Cae
attribute [local irreducible] wpL callK valK unitK runK Fun Sl Vc.Own vc vcOps opK pureK
def SErrs (w:World):Prop:=(∃t p,w.cell? ⟨6,0,none⟩=some (.iface t p))∧(∃t p,w.cell? ⟨7,0,none⟩=some (.iface t p))
theorem SErrs.below {w w':World}(h:SErrs w)(hb:Below w.heap.size w w'):SErrs w':=by
 obtain⟨⟨t,p,h1⟩,⟨t',p',h2⟩⟩:=h;exact⟨⟨t,p,(hb.cell (World.block_lt_of_cell? w _ h1)).trans h1⟩,⟨t',p',(hb.cell (World.block_lt_of_cell? w _ h2)).trans h2⟩⟩
def toErrR_ren:Go.Shelf.Ren:=⟨fun|245=>157|279=>186|280=>187|281=>188|282=>189|316=>215|171=>217|205=>216|243=>232|246=>190|283=>218|284=>219|285=>220|286=>221|129=>143|317=>233|318=>234|319=>235|320=>236|337=>240|338=>241|n=>n,fun|9=>9|3=>3|75=>32|167=>259|4=>4|168=>262|210=>290|37=>142|0=>0|127=>306|145=>309|143=>307|2=>2|171=>292|53=>208|5=>5|173=>294|212=>311|51=>206|20=>20|213=>312|46=>109|232=>316|233=>317|80=>76|n=>n,fun|15=>6|16=>7|17=>10|18=>11|19=>12|n=>n⟩
theorem toErrR:Go.Proofs.LaysC.n245 Tryz.prog toErrR_ren:={
 mixed:=by kernel_rfl
 f129:=Tryz.func143.trans (congrArg some (by kernel_rfl))
 f171:=Tryz.func217.trans (congrArg some (by kernel_rfl))
 f205:=Tryz.func216.trans (congrArg some (by kernel_rfl))
 f243:=Tryz.func232.trans (congrArg some (by kernel_rfl))
 f245:=Tryz.func157.trans (congrArg some (by kernel_rfl))
 f246:=Tryz.func190.trans (congrArg some (by kernel_rfl))
 f279:=Tryz.func186.trans (congrArg some (by kernel_rfl))
 f280:=Tryz.func187.trans (congrArg some (by kernel_rfl))
 f281:=Tryz.func188.trans (congrArg some (by kernel_rfl))
 f282:=Tryz.func189.trans (congrArg some (by kernel_rfl))
 f283:=Tryz.func218.trans (congrArg some (by kernel_rfl))
 f284:=Tryz.func219.trans (congrArg some (by kernel_rfl))
 f285:=Tryz.func220.trans (congrArg some (by kernel_rfl))
 f286:=Tryz.func221.trans (congrArg some (by kernel_rfl))
 f316:=Tryz.func215.trans (congrArg some (by kernel_rfl))
 f317:=Tryz.func233.trans (congrArg some (by kernel_rfl))
 f318:=Tryz.func234.trans (congrArg some (by kernel_rfl))
 f319:=Tryz.func235.trans (congrArg some (by kernel_rfl))
 f320:=Tryz.func236.trans (congrArg some (by kernel_rfl))
 f337:=Tryz.func240.trans (congrArg some (by kernel_rfl))
 f338:=Tryz.func241.trans (congrArg some (by kernel_rfl))
 t0:=Tryz.underlying0
 a0:=Tryz.isAgg0
 z0:=Tryz.sizeOf0
 v0:=Tryz.zeroValue0
 t2:=Tryz.underlying2
 a2:=Tryz.isAgg2
 z2:=Tryz.sizeOf2
 v2:=Tryz.zeroValue2
 t3:=Tryz.underlying3
 a3:=Tryz.isAgg3
 z3:=Tryz.sizeOf3
 v3:=Tryz.zeroValue3
 t4:=Tryz.underlying4
 a4:=Tryz.isAgg4
 z4:=Tryz.sizeOf4
 v4:=Tryz.zeroValue4
 t5:=Tryz.underlying5
 a5:=Tryz.isAgg5
 z5:=Tryz.sizeOf5
 v5:=Tryz.zeroValue5
 t9:=Tryz.underlying9
 a9:=Tryz.isAgg9
 z9:=Tryz.sizeOf9
 v9:=Tryz.zeroValue9
 t20:=Tryz.underlying20
 a20:=Tryz.isAgg20
 z20:=Tryz.sizeOf20
 v20:=Tryz.zeroValue20
 t37:=Tryz.underlying142
 a37:=Tryz.isAgg142
 z37:=Tryz.sizeOf142
 v37:=Tryz.zeroValue142
 t46:=Tryz.underlying109
 a46:=Tryz.isAgg109
 z46:=Tryz.sizeOf109
 v46:=Tryz.zeroValue109
 t51:=Tryz.underlying206
 a51:=Tryz.isAgg206
 z51:=Tryz.sizeOf206
 v51:=Tryz.zeroValue206
 t53:=Tryz.underlying208
 a53:=Tryz.isAgg208
 z53:=Tryz.sizeOf208
 v53:=Tryz.zeroValue208
 t75:=Tryz.underlying32
 a75:=Tryz.isAgg32
 z75:=Tryz.sizeOf32
 v75:=Tryz.zeroValue32
 t127:=Tryz.underlying306
 a127:=Tryz.isAgg306
 z127:=Tryz.sizeOf306
 v127:=Tryz.zeroValue306
 t143:=Tryz.underlying307
 a143:=Tryz.isAgg307
 z143:=Tryz.sizeOf307
 v143:=Tryz.zeroValue307
 t145:=Tryz.underlying309
 a145:=Tryz.isAgg309
 z145:=Tryz.sizeOf309
 v145:=Tryz.zeroValue309
 t167:=Tryz.underlying259
 a167:=Tryz.isAgg259
 z167:=Tryz.sizeOf259
 v167:=Tryz.zeroValue259
 t168:=Tryz.underlying262
 a168:=Tryz.isAgg262
 z168:=Tryz.sizeOf262
 v168:=Tryz.zeroValue262
 t171:=Tryz.underlying292
 a171:=Tryz.isAgg292
 z171:=Tryz.sizeOf292
 v171:=Tryz.zeroValue292
 t173:=Tryz.underlying294
 a173:=Tryz.isAgg294
 z173:=Tryz.sizeOf294
 v173:=Tryz.zeroValue294
 t210:=Tryz.underlying290
 a210:=Tryz.isAgg290
 z210:=Tryz.sizeOf290
 v210:=Tryz.zeroValue290
 t212:=Tryz.underlying311
 a212:=Tryz.isAgg311
 z212:=Tryz.sizeOf311
 v212:=Tryz.zeroValue311
 t213:=Tryz.underlying312
 a213:=Tryz.isAgg312
 z213:=Tryz.sizeOf312
 t232:=Tryz.underlying316
 a232:=Tryz.isAgg316
 z232:=Tryz.sizeOf316
 v232:=Tryz.zeroValue316
 t233:=Tryz.underlying317
 a233:=Tryz.isAgg317
 z233:=Tryz.sizeOf317
 v233:=Tryz.zeroValue317
 g15:=by kernel_rfl
 g16:=by kernel_rfl
 g17:=by kernel_rfl
 g18:=by kernel_rfl
 g19:=by kernel_rfl
 t80:=Tryz.underlying76
 a80:=Tryz.isAgg76
 z80:=Tryz.sizeOf76
 v80:=Tryz.zeroValue76
 i0:=by kernel_rfl
 i2:=by kernel_rfl
 i3:=by kernel_rfl
 i4:=by kernel_rfl
 i5:=by kernel_rfl
 i9:=by kernel_rfl
 i20:=by kernel_rfl
 i37:=by kernel_rfl
 i46:=by kernel_rfl
 i51:=by kernel_rfl
 i53:=by kernel_rfl
 i75:=by kernel_rfl
 i80:=by kernel_rfl
 i127:=by kernel_rfl
 i143:=by kernel_rfl
 i145:=by kernel_rfl
 i167:=by kernel_rfl
 i168:=by kernel_rfl
 i171:=by kernel_rfl
 i173:=by kernel_rfl
 i210:=by kernel_rfl
 i212:=by kernel_rfl
 i232:=by kernel_rfl
 i233:=by kernel_rfl
 m15:=by kernel_rfl
 m16:=by kernel_rfl
 m17:=by kernel_rfl
 m18:=by kernel_rfl
 m19:=by kernel_rfl
 c0:=by kernel_rfl
 c2:=by kernel_rfl
 c3:=by kernel_rfl
 c4:=by kernel_rfl
 c5:=by kernel_rfl
 c9:=by kernel_rfl
 c20:=by kernel_rfl
 c37:=by kernel_rfl
 c46:=by kernel_rfl
 c51:=by kernel_rfl
 c53:=by kernel_rfl
 c75:=by kernel_rfl
 c80:=by kernel_rfl
 c127:=by kernel_rfl
 c143:=by kernel_rfl
 c145:=by kernel_rfl
 c167:=by kernel_rfl
 c168:=by kernel_rfl
 c171:=by kernel_rfl
 c173:=by kernel_rfl
 c210:=by kernel_rfl
 c212:=by kernel_rfl
 c213:=by kernel_rfl
 c232:=by kernel_rfl
 c233:=by kernel_rfl }
theorem toErr_c (f s:List UInt8)(base bits:Int)(k:Int)(hk:k=1∨k=2)(hs:s.length≤1000000000)(w:World)(h:SErrs w):Fun Tryz.prog 157 [str f,str s,.int .i64 base,.int .i64 bits,.iface 259 (.int .i64 k)] w fun r w'=>(∃t p,r=.iface t p)∧Below w.heap.size w w':=by
 obtain⟨⟨t1,p1,h1⟩,⟨t2,p2,h2⟩⟩:=h;refine fun_of_calls Tryz.func157 (by kernel_rfl) (by kernel_rfl) ?_;rcases hk with rfl|rfl
 ·refine Calls.mono (Any.strconv_toError_range toErrR ⟨f.toArray⟩ ⟨s.toArray⟩ base bits _ w (by show s.length≤_;omega) h2 (.inr ⟨_,_,rfl⟩)) ?_
  rintro e w' ⟨N,rfl,_,_,hb⟩;exact⟨_,rfl,⟨_,_,rfl⟩,hb⟩
 ·refine Calls.mono (Any.strconv_toError_syntax toErrR ⟨f.toArray⟩ ⟨s.toArray⟩ base bits _ w (by show s.length≤_;omega) h1 (.inr ⟨_,_,rfl⟩)) ?_
  rintro e w' ⟨N,rfl,_,_,hb⟩;exact⟨_,rfl,⟨_,_,rfl⟩,hb⟩
theorem parseInt_l (bits:Int)(hbits:bits=32∨bits=40)(s:List UInt8)(hs:s.length≤1000000000)(w:World):Fun Tryz.prog 156 [str s,.int .i64 16,.int .i64 bits] w fun r w'=>(∃(v:Int) (e:Value),r=.tuple #[.int .i64 v,e]∧PErr e∧(∀n<2147483648,s=hexP n→v=n∧e=.nilIface))∧Below w.heap.size w w':=by
 refine fun_of_vc Tryz.func156 rfl (by kernel_rfl) [6,7] rfl ?_;push_cast -dsimp(maxSteps:=4000000) [Tryz.ntmps156];by_cases hne:s=[]
 ·subst hne;have e0:decide (([]:List UInt8)=[])=true:=rfl;push_cast -dsimp(maxSteps:=4000000) [e0];refine⟨⟨0,_,rfl,.inr (.inr rfl),fun n _ h=>absurd h.symm (hexP_ne n)⟩,Below.refl _ _⟩
 have hgc:∃c r,s=c::r:=List.exists_cons_of_ne_nil hne;obtain⟨c,r,rfl⟩:=hgc;have e0:decide (c::r=[])=false:=decide_eq_false hne;have eh:(c::r).getD 0 0=c:=rfl;have hsz:(c::r).length=r.length+1:=rfl;have hgb:∃b,c.toNat=b:=⟨_,rfl⟩;obtain⟨b,hb0⟩:=hgb;have hnx:(b=43∨b=45)→∀n<2147483648,c::r≠hexP n:=fun h n hn hh=>by
  obtain⟨b',r',h1,h2⟩:=hexP_head (n:=n) (by omega);rw[h1]at hh;cases hh;unfold isHex at h2;rw[hb0,Bool.or_eq_true,Bool.and_eq_true,Bool.and_eq_true,decide_eq_true_eq,decide_eq_true_eq,decide_eq_true_eq,decide_eq_true_eq]at h2;omega
 have ef:decide False=false:=rfl;have et:decide True=true:=rfl;have ed1:(c::r).drop (Int.toNat 1)=r:=rfl;push_cast -dsimp(maxSteps:=4000000) [eh,hb0,ef,et,ed1];refine⟨by omega,fun h43=>⟨by omega,?_⟩,fun n43=>⟨fun h45=>⟨by omega,?_⟩,fun n45=>?_⟩⟩
 ·have hno:=hnx (.inl (by omega));refine callK_of (parseUint_c bits hbits r (by first|omega|exact hs) w) ?_
  rintro _ w1 ⟨⟨v,e,rfl,hv,he,hx⟩,hb⟩;have ecut:∃ct:Nat,IntKind.u64.wrap (1*2 ^ min (IntKind.u64.wrap (bits-1)).toNat IntKind.u64.bits)=(ct:Int)∧2147483648≤ct∧ct<1099511627776:=by
   rcases hbits with rfl|rfl
   ·exact⟨2147483648,by decide,by omega,by omega⟩
   ·exact⟨549755813888,by decide,by omega,by omega⟩
  obtain⟨ct,ecut,hct1,hct2⟩:=ecut;have ewv:IntKind.i64.wrap (v:Int)=(v:Int):=by rw[wrap_i64 (by omega)]
  rcases he with rfl|rfl|rfl
  ·push_cast -dsimp(maxSteps:=4000000) [ef,et];rw[ecut];refine⟨fun h=>by omega,fun _=>⟨by omega,by rcases hbits with rfl|rfl<;>decide,fun hge=>⟨⟨_,_,rfl,.inr (.inl rfl),fun n hn h=>?_⟩,hb⟩,fun hlt=>⟨⟨_,_,rfl,.inl rfl,fun n hn h=>?_⟩,hb⟩⟩⟩
   ·first|exact absurd h (hno n hn)|(have:=(hx n (by omega) h).1;omega)
   ·first|exact absurd h (hno n hn)|(have:=(hx n (by omega) h).1;exact⟨by rw[ewv];omega,rfl⟩)
  ·push_cast -dsimp(maxSteps:=4000000) [ef,et];refine neqIfaceK (te:=259) (k:=.i64) (q:=.i64) rfl rfl rfl Tryz.underlying32 (by kernel_rfl) (by kernel_rfl) ?_;have e12:(!((1:Int) == 1))=false:=rfl;rw[e12];push_cast -dsimp(maxSteps:=4000000) [ef,et];refine⟨fun h=>by omega,fun _=>⟨by omega,by rcases hbits with rfl|rfl<;>decide,fun hge=>⟨⟨_,_,rfl,.inr (.inl rfl),fun n hn h=>?_⟩,hb⟩,fun hlt=>⟨⟨_,_,rfl,.inl rfl,fun n hn h=>?_⟩,hb⟩⟩⟩
   ·first|exact absurd h (hno n hn)|(have:=(hx n (by omega) h).2;cases this)
   ·first|exact absurd h (hno n hn)|(have:=(hx n (by omega) h).2;cases this)
  ·push_cast -dsimp(maxSteps:=4000000) [ef,et];refine neqIfaceK (te:=259) (k:=.i64) (q:=.i64) rfl rfl rfl Tryz.underlying32 (by kernel_rfl) (by kernel_rfl) ?_;have e12:(!((2:Int) == 1))=true:=rfl;rw[e12];push_cast -dsimp(maxSteps:=4000000) [ef,et];refine⟨⟨_,_,rfl,.inr (.inr rfl),fun n hn h=>?_⟩,hb⟩
   first|exact absurd h (hno n hn)|(have:=(hx n (by omega) h).2;cases this)
 ·have hno:=hnx (.inr (by omega));refine callK_of (parseUint_c bits hbits r (by first|omega|exact hs) w) ?_
  rintro _ w1 ⟨⟨v,e,rfl,hv,he,hx⟩,hb⟩;have ecut:∃ct:Nat,IntKind.u64.wrap (1*2 ^ min (IntKind.u64.wrap (bits-1)).toNat IntKind.u64.bits)=(ct:Int)∧2147483648≤ct∧ct<1099511627776:=by
   rcases hbits with rfl|rfl
   ·exact⟨2147483648,by decide,by omega,by omega⟩
   ·exact⟨549755813888,by decide,by omega,by omega⟩
  obtain⟨ct,ecut,hct1,hct2⟩:=ecut;have ewv:IntKind.i64.wrap (v:Int)=(v:Int):=by rw[wrap_i64 (by omega)]
  rcases he with rfl|rfl|rfl
  ·push_cast -dsimp(maxSteps:=4000000) [ef,et];rw[ecut];refine⟨fun h=>by omega,fun _=>⟨by omega,by rcases hbits with rfl|rfl<;>decide,fun hge=>⟨⟨_,_,rfl,.inr (.inl rfl),fun n hn h=>?_⟩,hb⟩,fun hlt=>⟨⟨_,_,rfl,.inl rfl,fun n hn h=>?_⟩,hb⟩⟩⟩
   ·first|exact absurd h (hno n hn)|(have:=(hx n (by omega) h).1;omega)
   ·first|exact absurd h (hno n hn)|(have:=(hx n (by omega) h).1;exact⟨by rw[ewv];omega,rfl⟩)
  ·push_cast -dsimp(maxSteps:=4000000) [ef,et];refine neqIfaceK (te:=259) (k:=.i64) (q:=.i64) rfl rfl rfl Tryz.underlying32 (by kernel_rfl) (by kernel_rfl) ?_;have e12:(!((1:Int) == 1))=false:=rfl;rw[e12];push_cast -dsimp(maxSteps:=4000000) [ef,et];refine⟨fun h=>by omega,fun _=>⟨by omega,by rcases hbits with rfl|rfl<;>decide,fun hge=>⟨⟨_,_,rfl,.inr (.inl rfl),fun n hn h=>?_⟩,hb⟩,fun hlt=>⟨⟨_,_,rfl,.inl rfl,fun n hn h=>?_⟩,hb⟩⟩⟩
   ·first|exact absurd h (hno n hn)|(have:=(hx n (by omega) h).2;cases this)
   ·first|exact absurd h (hno n hn)|(have:=(hx n (by omega) h).2;cases this)
  ·push_cast -dsimp(maxSteps:=4000000) [ef,et];refine neqIfaceK (te:=259) (k:=.i64) (q:=.i64) rfl rfl rfl Tryz.underlying32 (by kernel_rfl) (by kernel_rfl) ?_;have e12:(!((2:Int) == 1))=true:=rfl;rw[e12];push_cast -dsimp(maxSteps:=4000000) [ef,et];refine⟨⟨_,_,rfl,.inr (.inr rfl),fun n hn h=>?_⟩,hb⟩
   first|exact absurd h (hno n hn)|(have:=(hx n (by omega) h).2;cases this)
 ·skip;refine callK_of (parseUint_c bits hbits (c::r) (by first|omega|exact hs) w) ?_
  rintro _ w1 ⟨⟨v,e,rfl,hv,he,hx⟩,hb⟩;have ecut:∃ct:Nat,IntKind.u64.wrap (1*2 ^ min (IntKind.u64.wrap (bits-1)).toNat IntKind.u64.bits)=(ct:Int)∧2147483648≤ct∧ct<1099511627776:=by
   rcases hbits with rfl|rfl
   ·exact⟨2147483648,by decide,by omega,by omega⟩
   ·exact⟨549755813888,by decide,by omega,by omega⟩
  obtain⟨ct,ecut,hct1,hct2⟩:=ecut;have ewv:IntKind.i64.wrap (v:Int)=(v:Int):=by rw[wrap_i64 (by omega)]
  rcases he with rfl|rfl|rfl
  ·push_cast -dsimp(maxSteps:=4000000) [ef,et];rw[ecut];refine⟨fun h=>by omega,fun _=>⟨by omega,by rcases hbits with rfl|rfl<;>decide,fun hge=>⟨⟨_,_,rfl,.inr (.inl rfl),fun n hn h=>?_⟩,hb⟩,fun hlt=>⟨⟨_,_,rfl,.inl rfl,fun n hn h=>?_⟩,hb⟩⟩⟩
   ·first|exact absurd h (hno n hn)|(have:=(hx n (by omega) h).1;omega)
   ·first|exact absurd h (hno n hn)|(have:=(hx n (by omega) h).1;exact⟨by rw[ewv];omega,rfl⟩)
  ·push_cast -dsimp(maxSteps:=4000000) [ef,et];refine neqIfaceK (te:=259) (k:=.i64) (q:=.i64) rfl rfl rfl Tryz.underlying32 (by kernel_rfl) (by kernel_rfl) ?_;have e12:(!((1:Int) == 1))=false:=rfl;rw[e12];push_cast -dsimp(maxSteps:=4000000) [ef,et];refine⟨fun h=>by omega,fun _=>⟨by omega,by rcases hbits with rfl|rfl<;>decide,fun hge=>⟨⟨_,_,rfl,.inr (.inl rfl),fun n hn h=>?_⟩,hb⟩,fun hlt=>⟨⟨_,_,rfl,.inl rfl,fun n hn h=>?_⟩,hb⟩⟩⟩
   ·first|exact absurd h (hno n hn)|(have:=(hx n (by omega) h).2;cases this)
   ·first|exact absurd h (hno n hn)|(have:=(hx n (by omega) h).2;cases this)
  ·push_cast -dsimp(maxSteps:=4000000) [ef,et];refine neqIfaceK (te:=259) (k:=.i64) (q:=.i64) rfl rfl rfl Tryz.underlying32 (by kernel_rfl) (by kernel_rfl) ?_;have e12:(!((2:Int) == 1))=true:=rfl;rw[e12];push_cast -dsimp(maxSteps:=4000000) [ef,et];refine⟨⟨_,_,rfl,.inr (.inr rfl),fun n hn h=>?_⟩,hb⟩
   first|exact absurd h (hno n hn)|(have:=(hx n (by omega) h).2;cases this)
theorem parseInt_c (bits:Int)(hbits:bits=32∨bits=40)(s:List UInt8)(hs:s.length≤1000000000)(w:World)(h:SErrs w):Fun Tryz.prog 114 [str s,.int .i64 16,.int .i64 bits] w fun r w'=>(∃(v:Int) (e:Value),r=.tuple #[.int .i64 v,e]∧(e=.nilIface∨∃t x,e=.iface t x)∧(∀n<2147483648,s=hexP n→v=n∧e=.nilIface))∧Below w.heap.size w w':=by
 refine fun_of_vc Tryz.func114 rfl (by kernel_rfl) [6,7] rfl ?_;push_cast -dsimp(maxSteps:=4000000) [Tryz.ntmps114];refine callK_of (parseInt_l bits hbits s hs w) ?_;rintro _ w1 ⟨⟨v,e,rfl,he,hx⟩,hb⟩;rcases he with rfl|rfl|rfl
 ·push_cast -dsimp(maxSteps:=4000000) [];exact⟨⟨_,_,rfl,.inl rfl,hx⟩,hb⟩
 ·push_cast -dsimp(maxSteps:=4000000) [];refine callK_of (toErr_c [80,97,114,115,101,73,110,116] s 16 bits 1 (.inl rfl) hs w1 (h.below hb)) ?_;rintro _ w2 ⟨⟨t,p,rfl⟩,hb2⟩;push_cast -dsimp(maxSteps:=4000000) [];exact⟨⟨_,_,rfl,.inr ⟨_,_,rfl⟩,fun n hn hh=>by have:=(hx n hn hh).2;cases this⟩,hb.trans (hb2.mono hb.size)⟩
 ·push_cast -dsimp(maxSteps:=4000000) [];refine callK_of (toErr_c [80,97,114,115,101,73,110,116] s 16 bits 2 (.inr rfl) hs w1 (h.below hb)) ?_;rintro _ w2 ⟨⟨t,p,rfl⟩,hb2⟩;push_cast -dsimp(maxSteps:=4000000) [];exact⟨⟨_,_,rfl,.inr ⟨_,_,rfl⟩,fun n hn hh=>by have:=(hx n hn hh).2;cases this⟩,hb.trans (hb2.mono hb.size)⟩
end Go.Proofs.YtodeeahdhnjpkaaGreatDoor
end
section
namespace Go.Proofs.YtodeeahdhnjpkaaGreatDoor
open Go.Vc Go.Proofs Go.RowKit Cae
attribute [local irreducible] wpL callK valK unitK runK Fun Sl Vc.Own vc vcOps opK pureK
def ParseR (B:Nat)(s:List UInt8)(r:Value)(w:World):Prop :=
 (∃v l,r=.tuple #[v,.nilIface]∧Go.Vc.Own B 104 2 encR w v l∧PrintOf s l)∨((∀l,¬PrintOf s l)∧r=.tuple #[.slice none 0 0,.iface 26 (.int .i64 3)])
def ParI (sz:Nat)(w:World)(s body:List UInt8)(pre:List (List UInt8))(W:World):Prop :=
 ∃v out,Blk W sz 44 [.slice none 0 0]∧Blk W (sz+1) 32 [.nilIface]∧Blk W (sz+2) 9 [str body]∧Blk W (sz+3) 44 [v]∧Go.Vc.Own (sz+9) 104 2 encR W v out∧out.length=pre.length∧(body=[]→out=[])∧(∀l,PrintOf s l→out=l.take pre.length)∧Below sz w W
def ParX (sz:Nat)(w:World)(s body:List UInt8)(c:Code)(pre:List (List UInt8))(W:World):Prop :=
 (c=.ret∧Blk W sz 44 [.slice none 0 0]∧Blk W (sz+1) 32 [.iface 26 (.int .i64 3)]∧(∀l,¬PrintOf s l)∧Below sz w W)∨(c=.exit 0∧body=[]∧ParI sz w s body [] W)
theorem ParI.kept {sz:Nat}{w W W':World}{s body:List UInt8}{pre:List (List UInt8)}(hw:sz=w.heap.size)(h:ParI sz w s body pre W)(hk:Kept (fun k=>k=sz+4∨k=sz+7∨k=sz+7+1) W W'):ParI sz w s body pre W':=by
 obtain⟨v,out,h1,h2,h3,h4,h5,h6,h7,h8,h9⟩:=h;exact⟨v,out,h1.kept hk (by omega),h2.kept hk (by omega),h3.kept hk (by omega),h4.kept hk (by omega),h5.keptX hk (fun g hg hh=>by have:=(h5.block g hg).1;omega),h6,h7,h8,h9.trans (hk.below (by have:=h9.size;omega) (fun i h=>by omega))⟩
theorem ParX.kept {sz:Nat}{w W W':World}{s body:List UInt8}{c:Code}{pre:List (List UInt8)}(hw:sz=w.heap.size)(h:ParX sz w s body c pre W)(hk:Kept (fun k=>k=sz+4∨k=sz+7∨k=sz+7+1) W W'):ParX sz w s body c pre W':=by
 rcases h with ⟨h0,h1,h2,h3,h9⟩|⟨h0,h1,h2⟩
 ·exact .inl ⟨h0,h1.kept hk (by omega),h2.kept hk (by omega),h3,h9.trans (hk.below (by have:=h9.size;omega) (fun i h=>by omega))⟩
 ·exact .inr ⟨h0,h1,h2.kept hw hk⟩
theorem parse_end {w W:World}{s:List UInt8}{r1 r2:Value}{D:Nat}(hD:D=w.heap.size+7)(P1:Blk W w.heap.size 44 [r1])(P2:Blk W (w.heap.size+1) 32 [r2])(hDW:W.heap[D]?=some (.deferred (some [])))(hb:Below w.heap.size w W)
  (hR:ParseR w.heap.size s (.tuple #[r1,r2]) (W.putObj D (.deferred none))) {t:Fr} (h2:t.getD 2 undef=.pointer (some ⟨w.heap.size,0,none⟩)) (h3:t.getD 3 undef=.pointer (some ⟨w.heap.size+1,0,none⟩)) :
  bodyPostM Fence.wide 0 Tryz.prog Tryz.f119 (fun e w'=>∃v,e=.returned v∧ParseR w.heap.size s v w'∧Below w.heap.size w w') .ret ⟨t.toArray,[{ target:=.collected D,args:=#[] }]⟩ W:=by
 have hk:=keptPut (X:=fun k=>k=D) W D (.deferred none) rfl;have Q1:=P1.kept hk (by omega);have Q2:=P2.kept hk (by omega);refine leaveD (rs:=[.cell 2 44,.cell 3 32]) (by rfl) hDW ?_;have d1:(W.putObj D (.deferred none)).cell? ⟨w.heap.size,0,none⟩=some r1:=Q1.cell rfl;have d2:(W.putObj D (.deferred none)).cell? ⟨w.heap.size+1,0,none⟩=some r2:=Q2.cell rfl;have hgW:∃V,W.putObj D (.deferred none)=V:=⟨_,rfl⟩;obtain⟨V,hV⟩:=hgW;rw[hV]at d1 d2 hR hk ⊢
 push_cast -dsimp[h2,h3,d1,d2];exact⟨hR,hb.trans (hk.below hb.size (fun i h=>by omega))⟩
theorem parse_c (s:List UInt8)(hs:s.length≤1000000)(w:World)(hd:Db w)(he:SErrs w):Fun Tryz.prog 119 [str s] w fun r w'=>ParseR w.heap.size s r w'∧Below w.heap.size w w':=by
 refine fun_of_in Tryz.func119 rfl (by kernel_rfl) ?_;simp -dsimp (maxSteps:=4000000) only[push_cast,fr0,Tryz.ntmps119,List.length_cons,List.length_nil,Nat.reduceAdd,Nat.reduceSub,Nat.reduceBEq,List.replicate_succ,List.replicate_zero];refine seqIn (ro:=none) (by rfl) ?_;push_cast -dsimp;refine allocK (z:=[.slice none 0 0]) (by kernel_rfl) ?_;intro w1 hw1;have sz1:=hw1.size;have B1:=hw1.blk;have b1:=hw1.below;push_cast -dsimp;refine allocK (z:=[.nilIface]) (by kernel_rfl) ?_;intro w2 hw2;have sz2:=hw2.size;have B12:=B1.below hw2.below (by omega);have B22:=hw2.blk;have b2:=b1.trans (hw2.below.mono (by omega));rw[sz1]at B22;push_cast -dsimp[sz1];refine seqIn (ro:=none) (by rfl) ?_;push_cast -dsimp;refine callK_of (cutPre_c s [91] w2) ?_;rintro _ w2' ⟨rfl,rfl⟩;push_cast -dsimp;refine allocK (z:=[str []]) (by kernel_rfl) ?_;intro w3 hw3;have sz3:=hw3.size;have B13:=B12.below hw3.below (by omega);have B23:=B22.below hw3.below (by omega);have B33:=hw3.blk;have b3:=b2.trans (hw3.below.mono (by omega));have es2:w2'.heap.size=w.heap.size+2:=by omega
 rw[es2]at B33;push_cast -dsimp[es2];refine storeK_of B33 (by simp) rfl ?_;intro w4 hw4;have sz4:w4.heap.size=w3.heap.size:=hw4.size;have B14:=B13.kept hw4.kept (by omega);have B24:=B23.kept hw4.kept (by omega);have B34:Blk w4 (w.heap.size+2) 9 [str (Lib.trimPrefix s [91])]:=hw4.blk;have b4:=b3.trans (hw4.kept.below (B:=w.heap.size) (by omega) (fun i h=>by omega));have c34:w4.cell? ⟨w.heap.size+2,0,none⟩=some (str (Lib.trimPrefix s [91])):=B34.cell rfl;have htl:(Lib.trimPrefix s [91]).length≤s.length:=by
  unfold Lib.trimPrefix;split
  ·rw[List.length_drop];omega
  ·exact Nat.le_refl _
 push_cast -dsimp;refine seqIn (ro:=none) (by rfl) ?_;push_cast -dsimp[c34];refine callK_of (cutSuf_c (Lib.trimPrefix s [91]) [93] (by omega) w4) ?_;rintro _ w4' ⟨rfl,rfl⟩;push_cast -dsimp;refine storeK_of B34 (by simp) rfl ?_;intro w5 hw5;have sz5:w5.heap.size=w4'.heap.size:=hw5.size;have B15:=B14.kept hw5.kept (by omega);have B25:=B24.kept hw5.kept (by omega);have hgb:∃body,Lib.trimSuffix (Lib.trimPrefix s [91]) [93]=body:=⟨_,rfl⟩;obtain⟨body,hbody⟩:=hgb;have hbl:body.length≤s.length:=by
  rw[←hbody];unfold Lib.trimSuffix;split
  ·rw[List.length_take];omega
  ·exact htl
 rw[hbody]at hw5;rw[hbody];have B35:Blk w5 (w.heap.size+2) 9 [str body]:=hw5.blk;have b5:=b4.trans (hw5.kept.below (B:=w.heap.size) (by omega) (fun i h=>by omega));have c15:w5.cell? ⟨w.heap.size,0,none⟩=some (.slice none 0 0):=B15.cell rfl;have hgp:∃pf,Lib.hasPrefix s [91]=pf:=⟨_,rfl⟩;obtain⟨pf,hpf⟩:=hgp;have hgq:∃sf,Lib.hasSuffix (Lib.trimPrefix s [91]) [93]=sf:=⟨_,rfl⟩;obtain⟨sf,hsf⟩:=hgq;rw[hpf,hsf];push_cast -dsimp;refine seqIn (ro:=none) (by rfl) ?_;cases hps:(pf && sf) with
 | false =>
  have hno:∀l,¬PrintOf s l:=fun l h=>by
   have:=print_pre h;rw[hpf,hsf]at this;rw[this.1,this.2.1]at hps;cases hps
  cases pf<;>cases sf<;>first|(cases hps;done)|skip
  all_goals
   push_cast -dsimp
   refine storeK_of B15 (by simp) rfl ?_
   intro w6 hw6
   have sz6:w6.heap.size=w5.heap.size:=hw6.size
   have B26:=B25.kept hw6.kept (by omega)
   have B16:Blk w6 w.heap.size 44 [.slice none 0 0]:=hw6.blk
   push_cast -dsimp
   refine storeK_of B26 (by simp) rfl ?_
   intro w7 hw7
   have B17:=B16.kept hw7.kept (by omega)
   have B27:Blk w7 (w.heap.size+1) 32 [.iface 26 (.int .i64 3)]:=hw7.blk
   have b7:=(b5.trans (hw6.kept.below (B:=w.heap.size) (by omega) (fun i h=>by omega))).trans (hw7.kept.below (B:=w.heap.size) (by omega) (fun i h=>by omega))
   have d1:w7.cell? ⟨w.heap.size,0,none⟩=some (.slice none 0 0):=B17.cell rfl
   have d2:w7.cell? ⟨w.heap.size+1,0,none⟩=some (.iface 26 (.int .i64 3)):=B27.cell rfl
   push_cast -dsimp
   refine leave0 (rs:=[.cell 2 44,.cell 3 32]) (by rfl) ?_
   push_cast -dsimp[d1,d2]
   exact⟨.inr ⟨hno,rfl⟩,b7⟩
 | true =>
  cases pf<;>cases sf<;>first|(cases hps;done)|skip
  push_cast -dsimp;refine seqIn (ro:=none) (by rfl) ?_;push_cast -dsimp;refine allocK (z:=[.slice none 0 0]) (by kernel_rfl) ?_;intro w6 hw6;have sz6:=hw6.size;have B16:=B15.below hw6.below (by omega);have B26:=B25.below hw6.below (by omega);have B36:=B35.below hw6.below (by omega);have B46:=hw6.blk;have b6:=b5.trans (hw6.below.mono (by omega));have es5:w5.heap.size=w.heap.size+3:=by omega
  rw[es5]at B46;have c36:w6.cell? ⟨w.heap.size+2,0,none⟩=some (str body):=B36.cell rfl;push_cast -dsimp[es5];refine wpIn_seq (seqIn (ro:=none) (by rfl) ?_);push_cast -dsimp[c36];refine callK_of (splitSeqs_c body 32 w6) ?_;rintro _ w7 ⟨rfl,hS,hP,hV,sz7,hb7⟩;have es6:w6.heap.size=w.heap.size+4:=by omega
  rw[es6]at hS hP hV;have B17:=B16.below hb7 (by omega);have B27:=B26.below hb7 (by omega);have B37:=B36.below hb7 (by omega);have B47:=B46.below hb7 (by omega);have b7:=b6.trans (hb7.mono (by omega));push_cast -dsimp[es6];have es7:w7.heap.size=w.heap.size+7:=by omega
  have hS7:Blk w7 (w.heap.size+4) 9 [str body]:=hS;refine wpIn_block (rangeV (α:=List UInt8) (gf:=224) (lb:=[.pointer (some ⟨w.heap.size+4+1,0,none⟩),.pointer (some ⟨w.heap.size+4,0,none⟩),.pointer (some ⟨w.heap.size+4+2,0,none⟩)]) (by rfl) (fun args w=>callFunc_enter Tryz.func224 (by kernel_rfl) (by kernel_rfl)) (en:=fun x=>str x) (B:=fun k=>k=w.heap.size+4) (Z:=fun k=>k=w.heap.size+4∨k=w.heap.size+4+1∨k=w.heap.size+4+2)
   (fun k hk=>by omega) (fun k hk=>by omega) (split_it body 32 (by omega) _ _ _ _ (by omega) (by omega) w7 hS hP hV) (ParI w.heap.size w s body) (ParX w.heap.size w s body) (fun p W W' h hk=>h.kept rfl (by rw[es7]at hk;exact hk)) (fun c p W W' h hk=>h.kept rfl (by rw[es7]at hk;exact hk)) ?_ 8 (by rfl) (by rfl) ?_ ?_ ?_ ?_)
  ·exact⟨_,[],B17,B27,B37,B47,Go.Vc.Own.nil (enc:=encR) _ _ (fun _=>rfl) _,rfl,fun _=>rfl,fun l _=>rfl,b7⟩
  ·intro x W;push_cast -dsimp
  ·intro pre x W hI hA hWs;obtain⟨v,out,P1,P2,P3,P4,ho,hol,hob,hol2,hbB⟩:=hI;have hbs:=hbB.size;have cb:W.cell? ⟨w.heap.size+2,0,none⟩=some (str body):=P3.cell rfl;have hxm:x∈splitB 32 body:=hA.subset (by simp);have hxl:=splitB_mem 32 body x hxm;have hpreL:pre.length≤body.length:=by
    have h1:=hA.length_le;have h2:=splitB_len 32 body;rw[List.length_append,List.length_singleton]at h1;omega
   have hpl:∀l,PrintOf s l→setRight (-2) l=true∧body=bodyP l:=fun l hl=>⟨hl.1,by rw[←hbody];exact(print_pre hl).2.2⟩;push_cast -dsimp[cb];refine⟨fun hbe=>?_,fun hbne=>?_⟩
   ·have hoe:=hob hbe;subst hoe;exact⟨Nat.le_refl _,.inr ⟨rfl,hbe,v,[],P1,P2,P3,P4,ho,rfl,fun _=>rfl,fun l _=>rfl,hbB⟩⟩
   ·refine callK_of (cut_c x 45 (by omega) W) ?_;rintro _ w8 ⟨rfl,hb8⟩;have hgc:∃a b two,cutP 45 x=(a,b,two):=⟨_,_,_,rfl⟩;obtain⟨a,b,two,hcut⟩:=hgc;have hcl:=cutP_len 45 x;rw[hcut]at hcl;rw[hcut];obtain⟨hla,hlb⟩:=hcl;dsimp only at hla hlb;cases two with
    | true =>
     have hcp:∀l,PrintOf s l→∃r,l[pre.length]?=some r∧0≤r.1∧r.1≤r.2∧r.2≤1114111∧a=hexP r.1.toNat∧b=hexP r.2.toNat:=fun l hl=>by
      obtain⟨hr,hbb⟩:=hpl l hl;obtain⟨r,hr1,hr0,hr2,hr3,hr4⟩:=round_plain hr hbb hbne hA;rw[hr0]at hcut;by_cases hlt:r.1<r.2
      ·rw[cut_rg (by omega) (by omega) (by omega) hlt]at hcut;exact⟨r,hr1,hr2,hr3,hr4,(Prod.mk.inj hcut).1.symm,(Prod.mk.inj (Prod.mk.inj hcut).2).1.symm⟩
      ·rw[cut_rg1 (by omega) (by omega) hlt]at hcut;cases (Prod.mk.inj (Prod.mk.inj hcut).2).2
     push_cast -dsimp;refine callK_of (parseInt_c 32 (.inl rfl) a (by omega) w8 (he.below (hbB.trans (hb8.mono hbs)))) ?_;rintro _ w9 ⟨⟨v1,e1,rfl,he1,hx1⟩,hb9⟩;push_cast -dsimp;refine callK_of (parseInt_c 32 (.inl rfl) b (by omega) w9 (he.below (hbB.trans ((hb8.tr hb9).mono hbs)))) ?_;rintro _ w10 ⟨⟨v2,e2,rfl,he2,hx2⟩,hb10⟩;have hb10':=(hb8.tr hb9).tr hb10;have Q1:=P1.below hb10' (by omega);have Q2:=P2.below hb10' (by omega);have Q3:=P3.below hb10' (by omega);have Q4:=P4.below hb10' (by omega);have hoq:=ho.below hb10';have hbq:=hbB.trans (hb10'.mono hbs);have hWq:=hb10'.size;have hkq:Kept (fun _=>False) W w10:=Kept.of_below hb10' (fun i h1 h2=>by omega);have hval:∀l,PrintOf s l→∃r,l[pre.length]?=some r∧v1=r.1∧v2=r.2∧e1=.nilIface∧e2=.nilIface:=fun l hl=>by
      obtain⟨r,hr1,hr2,hr3,hr4,ha1,ha2⟩:=hcp l hl;have h1:=hx1 _ (by omega) ha1;have h2:=hx2 _ (by omega) ha2;exact⟨r,hr1,by rw[h1.1];omega,by rw[h2.1];omega,h1.2,h2.2⟩
     by_cases hee:e1=.nilIface∧e2=.nilIface
     ·obtain⟨rfl,rfl⟩:=hee;have cv:w10.cell? ⟨w.heap.size+3,0,none⟩=some v:=Q4.cell rfl;have hsh:=hoq.slice;obtain⟨oa,oc,rfl⟩:=hsh;push_cast -dsimp[cv];refine rowK elI_44 rfl rfl (by omega) ?_;intro w11 hw11;have sz11:=hw11.size;have ho11:=hoq.new hw11;have R4:=Q4.below hw11.below (by omega);push_cast -dsimp;refine appendK2 (base:=w.heap.size+9) [(v1,v2)] (enc:=encR) elI_44 ho11 (by rfl) (fun j u hu=>by simpa[encR] using hw11.cell hu) encR_one (by simp only[List.length_cons,List.length_nil];omega) (by omega) ?_;intro v12 w12 ho12 hg12 hn12;have kg:Kept (fun j=>(Value.slice oa out.length oc).ownBlock=some j) w11 w12:=Kept.grown hg12 (fun _ h=>h);have hown:=ho11.block;have R5:Blk w12 (w.heap.size+3) 44 [.slice oa out.length oc]:=R4.kept kg (fun h=>by have:=(hown _ h).1;omega);push_cast -dsimp;have hsh:=ho12.slice;obtain⟨va,vc,rfl⟩:=hsh;refine storeK_of R5 (by simp) rfl ?_;intro w13 hw13;have k13:Kept (fun j=>j=w.heap.size+3∨(Value.slice oa out.length oc).ownBlock=some j) w10 w13:=((Kept.new (X:=fun j=>j=w.heap.size+3∨(Value.slice oa out.length oc).ownBlock=some j) hw11).trans kg (fun _ _ h=>.inr h)).trans hw13.kept (fun _ _ h=>.inl h);have hlow:∀{k:Nat},k=w.heap.size+3∨(Value.slice oa out.length oc).ownBlock=some k→w.heap.size+9≤k∨k=w.heap.size+3:=fun h=>by
       rcases h with h|h
       ·exact .inr h
       ·exact .inl (hown _ h).1
      have S1:=Q1.kept k13 (fun h=>by have:=hlow h;omega);have S2:=Q2.kept k13 (fun h=>by have:=hlow h;omega);have S3:=Q3.kept k13 (fun h=>by have:=hlow h;omega);have S4:Blk w13 (w.heap.size+3) 44 [.slice va (out++[(v1,v2)]).length vc]:=hw13.blk;have ho13:=ho12.keptX hw13.kept (fun g hg h=>by have:=(ho12.block g hg).1;omega);have hz:∀k,(k=w.heap.size+4∨k=w.heap.size+4+1∨k=w.heap.size+4+2)∨k=w7.heap.size∨k=w7.heap.size+1→w13.heap[k]?=W.heap[k]?:=fun k hk =>
       (k13.block k (by omega) (fun h=>by have:=hlow h;omega)).trans (hkq.block k (by omega) (fun h=>h))
      have hend:ParI w.heap.size w s body (pre++[x]) w13:=⟨_,out++[(v1,v2)],S1,S2,S3,S4,ho13,by rw[List.length_append,List.length_append,hol];rfl,fun h=>absurd h hbne,fun l hl=>by
        obtain⟨r,hr1,rfl,rfl,_,_⟩:=hval l hl;have ht:l.take (pre++[x]).length=l.take pre.length++[r]:=by
         rw[List.length_append,List.length_singleton,List.take_add_one,hr1];rfl
        rw[ht,←hol2 l hl],hbq.trans (k13.below (B:=w.heap.size) (by omega) (fun i h=>by have:=hlow h;omega))⟩
      have hsz13:W.heap.size≤w13.heap.size:=by have:=k13.size;omega
      push_cast -dsimp;exact⟨hsz13,hz,hend⟩
     ·have herr:∀l,¬PrintOf s l:=fun l hl=>by
       obtain⟨r,_,_,_,h1,h2⟩:=hval l hl;exact hee ⟨h1,h2⟩
      have fin:∀(w13:World),Blk w13 w.heap.size 44 [.slice none 0 0]→Blk w13 (w.heap.size+1) 32 [.iface 26 (.int .i64 3)]→Kept (fun k=>k=w.heap.size∨k=w.heap.size+1) w10 w13→W.heap.size≤w13.heap.size∧(∀k,(k=w.heap.size+4∨k=w.heap.size+4+1∨k=w.heap.size+4+2)∨k=w7.heap.size∨k=w7.heap.size+1→w13.heap[k]?=W.heap[k]?)∧ParX w.heap.size w s body .ret (pre++[x]) w13:=fun w13 h1 h2 hk =>
       ⟨by have:=hk.size;omega,fun k h=>(hk.block k (by omega) (by omega)).trans (hkq.block k (by omega) (fun h=>h)),.inl ⟨rfl,h1,h2,herr,hbq.trans (hk.below (by omega) (fun i h=>by omega))⟩⟩
      rcases he1 with rfl|⟨t1,x1,rfl⟩
      ·rcases he2 with rfl|⟨t2,x2,rfl⟩
       ·exact absurd ⟨rfl,rfl⟩ hee
       ·push_cast -dsimp;refine storeK_of Q1 (by simp) rfl ?_;intro w11 hw11;have T2:=Q2.kept hw11.kept (by omega);have T1:Blk w11 w.heap.size 44 [.slice none 0 0]:=hw11.blk;push_cast -dsimp;refine storeK_of T2 (by simp) rfl ?_;intro w12 hw12;have U1:=T1.kept hw12.kept (by omega);have hfin:=fin w12 U1 hw12.blk ((hw11.kept.weaken (fun i _ h=>.inl h)).trans hw12.kept (fun i _ h=>.inr h));push_cast -dsimp;exact hfin
      ·push_cast -dsimp;refine storeK_of Q1 (by simp) rfl ?_;intro w11 hw11;have T2:=Q2.kept hw11.kept (by omega);have T1:Blk w11 w.heap.size 44 [.slice none 0 0]:=hw11.blk;push_cast -dsimp;refine storeK_of T2 (by simp) rfl ?_;intro w12 hw12;have U1:=T1.kept hw12.kept (by omega);have hfin:=fin w12 U1 hw12.blk ((hw11.kept.weaken (fun i _ h=>.inl h)).trans hw12.kept (fun i _ h=>.inr h));push_cast -dsimp;exact hfin
    | false =>
     have hcp:∀l,PrintOf s l→∃r,l[pre.length]?=some r∧0≤r.1∧r.1≤r.2∧r.2≤1114111∧a=hexP r.1.toNat∧a=hexP r.2.toNat:=fun l hl=>by
      obtain⟨hr,hbb⟩:=hpl l hl;obtain⟨r,hr1,hr0,hr2,hr3,hr4⟩:=round_plain hr hbb hbne hA;rw[hr0]at hcut;by_cases hlt:r.1<r.2
      ·rw[cut_rg (by omega) (by omega) (by omega) hlt]at hcut;cases (Prod.mk.inj (Prod.mk.inj hcut).2).2
      ·rw[cut_rg1 (by omega) (by omega) hlt]at hcut;have e2:r.2=r.1:=by omega
       exact⟨r,hr1,hr2,hr3,hr4,(Prod.mk.inj hcut).1.symm,by rw[e2];exact(Prod.mk.inj hcut).1.symm⟩
     push_cast -dsimp;refine callK_of (parseInt_c 32 (.inl rfl) a (by omega) w8 (he.below (hbB.trans (hb8.mono hbs)))) ?_;rintro _ w9 ⟨⟨v1,e1,rfl,he1,hx1⟩,hb9⟩;push_cast -dsimp;refine callK_of (parseInt_c 32 (.inl rfl) a (by omega) w9 (he.below (hbB.trans ((hb8.tr hb9).mono hbs)))) ?_;rintro _ w10 ⟨⟨v2,e2,rfl,he2,hx2⟩,hb10⟩;have hb10':=(hb8.tr hb9).tr hb10;have Q1:=P1.below hb10' (by omega);have Q2:=P2.below hb10' (by omega);have Q3:=P3.below hb10' (by omega);have Q4:=P4.below hb10' (by omega);have hoq:=ho.below hb10';have hbq:=hbB.trans (hb10'.mono hbs);have hWq:=hb10'.size;have hkq:Kept (fun _=>False) W w10:=Kept.of_below hb10' (fun i h1 h2=>by omega);have hval:∀l,PrintOf s l→∃r,l[pre.length]?=some r∧v1=r.1∧v2=r.2∧e1=.nilIface∧e2=.nilIface:=fun l hl=>by
      obtain⟨r,hr1,hr2,hr3,hr4,ha1,ha2⟩:=hcp l hl;have h1:=hx1 _ (by omega) ha1;have h2:=hx2 _ (by omega) ha2;exact⟨r,hr1,by rw[h1.1];omega,by rw[h2.1];omega,h1.2,h2.2⟩
     by_cases hee:e1=.nilIface∧e2=.nilIface
     ·obtain⟨rfl,rfl⟩:=hee;have cv:w10.cell? ⟨w.heap.size+3,0,none⟩=some v:=Q4.cell rfl;have hsh:=hoq.slice;obtain⟨oa,oc,rfl⟩:=hsh;push_cast -dsimp[cv];refine rowK elI_44 rfl rfl (by omega) ?_;intro w11 hw11;have sz11:=hw11.size;have ho11:=hoq.new hw11;have R4:=Q4.below hw11.below (by omega);push_cast -dsimp;refine appendK2 (base:=w.heap.size+9) [(v1,v2)] (enc:=encR) elI_44 ho11 (by rfl) (fun j u hu=>by simpa[encR] using hw11.cell hu) encR_one (by simp only[List.length_cons,List.length_nil];omega) (by omega) ?_;intro v12 w12 ho12 hg12 hn12;have kg:Kept (fun j=>(Value.slice oa out.length oc).ownBlock=some j) w11 w12:=Kept.grown hg12 (fun _ h=>h);have hown:=ho11.block;have R5:Blk w12 (w.heap.size+3) 44 [.slice oa out.length oc]:=R4.kept kg (fun h=>by have:=(hown _ h).1;omega);push_cast -dsimp;have hsh:=ho12.slice;obtain⟨va,vc,rfl⟩:=hsh;refine storeK_of R5 (by simp) rfl ?_;intro w13 hw13;have k13:Kept (fun j=>j=w.heap.size+3∨(Value.slice oa out.length oc).ownBlock=some j) w10 w13:=((Kept.new (X:=fun j=>j=w.heap.size+3∨(Value.slice oa out.length oc).ownBlock=some j) hw11).trans kg (fun _ _ h=>.inr h)).trans hw13.kept (fun _ _ h=>.inl h);have hlow:∀{k:Nat},k=w.heap.size+3∨(Value.slice oa out.length oc).ownBlock=some k→w.heap.size+9≤k∨k=w.heap.size+3:=fun h=>by
       rcases h with h|h
       ·exact .inr h
       ·exact .inl (hown _ h).1
      have S1:=Q1.kept k13 (fun h=>by have:=hlow h;omega);have S2:=Q2.kept k13 (fun h=>by have:=hlow h;omega);have S3:=Q3.kept k13 (fun h=>by have:=hlow h;omega);have S4:Blk w13 (w.heap.size+3) 44 [.slice va (out++[(v1,v2)]).length vc]:=hw13.blk;have ho13:=ho12.keptX hw13.kept (fun g hg h=>by have:=(ho12.block g hg).1;omega);have hz:∀k,(k=w.heap.size+4∨k=w.heap.size+4+1∨k=w.heap.size+4+2)∨k=w7.heap.size∨k=w7.heap.size+1→w13.heap[k]?=W.heap[k]?:=fun k hk =>
       (k13.block k (by omega) (fun h=>by have:=hlow h;omega)).trans (hkq.block k (by omega) (fun h=>h))
      have hend:ParI w.heap.size w s body (pre++[x]) w13:=⟨_,out++[(v1,v2)],S1,S2,S3,S4,ho13,by rw[List.length_append,List.length_append,hol];rfl,fun h=>absurd h hbne,fun l hl=>by
        obtain⟨r,hr1,rfl,rfl,_,_⟩:=hval l hl;have ht:l.take (pre++[x]).length=l.take pre.length++[r]:=by
         rw[List.length_append,List.length_singleton,List.take_add_one,hr1];rfl
        rw[ht,←hol2 l hl],hbq.trans (k13.below (B:=w.heap.size) (by omega) (fun i h=>by have:=hlow h;omega))⟩
      have hsz13:W.heap.size≤w13.heap.size:=by have:=k13.size;omega
      push_cast -dsimp;exact⟨hsz13,hz,hend⟩
     ·have herr:∀l,¬PrintOf s l:=fun l hl=>by
       obtain⟨r,_,_,_,h1,h2⟩:=hval l hl;exact hee ⟨h1,h2⟩
      have fin:∀(w13:World),Blk w13 w.heap.size 44 [.slice none 0 0]→Blk w13 (w.heap.size+1) 32 [.iface 26 (.int .i64 3)]→Kept (fun k=>k=w.heap.size∨k=w.heap.size+1) w10 w13→W.heap.size≤w13.heap.size∧(∀k,(k=w.heap.size+4∨k=w.heap.size+4+1∨k=w.heap.size+4+2)∨k=w7.heap.size∨k=w7.heap.size+1→w13.heap[k]?=W.heap[k]?)∧ParX w.heap.size w s body .ret (pre++[x]) w13:=fun w13 h1 h2 hk =>
       ⟨by have:=hk.size;omega,fun k h=>(hk.block k (by omega) (by omega)).trans (hkq.block k (by omega) (fun h=>h)),.inl ⟨rfl,h1,h2,herr,hbq.trans (hk.below (by omega) (fun i h=>by omega))⟩⟩
      rcases he1 with rfl|⟨t1,x1,rfl⟩
      ·rcases he2 with rfl|⟨t2,x2,rfl⟩
       ·exact absurd ⟨rfl,rfl⟩ hee
       ·push_cast -dsimp;refine storeK_of Q1 (by simp) rfl ?_;intro w11 hw11;have T2:=Q2.kept hw11.kept (by omega);have T1:Blk w11 w.heap.size 44 [.slice none 0 0]:=hw11.blk;push_cast -dsimp;refine storeK_of T2 (by simp) rfl ?_;intro w12 hw12;have U1:=T1.kept hw12.kept (by omega);have hfin:=fin w12 U1 hw12.blk ((hw11.kept.weaken (fun i _ h=>.inl h)).trans hw12.kept (fun i _ h=>.inr h));push_cast -dsimp;exact hfin
      ·push_cast -dsimp;refine storeK_of Q1 (by simp) rfl ?_;intro w11 hw11;have T2:=Q2.kept hw11.kept (by omega);have T1:Blk w11 w.heap.size 44 [.slice none 0 0]:=hw11.blk;push_cast -dsimp;refine storeK_of T2 (by simp) rfl ?_;intro w12 hw12;have U1:=T1.kept hw12.kept (by omega);have hfin:=fin w12 U1 hw12.blk ((hw11.kept.weaken (fun i _ h=>.inl h)).trans hw12.kept (fun i _ h=>.inr h));push_cast -dsimp;exact hfin
  ·intro xs W hS hI hD;obtain⟨v,out,P1,P2,P3,P4,ho,hol,hob,hol2,hbB⟩:=hI;have hxl:xs.length≤body.length+1:=by rw[hS];exact splitB_len 32 body
   have hout:∀l,PrintOf s l→out=l:=fun l hl=>by
    have hbb:body=bodyP l:=by rw[←hbody];exact(print_pre hl).2.2
    by_cases hb0:body=[]
    ·rw[hob hb0,bodyP_nil (hbb.symm.trans hb0)]
    ·have hs2:xs=l.map rgP:=by rw[hS,hbb];exact split_body hl.1 (by rw[←hbb];exact hb0)
     rw[hol2 l hl,hs2,List.length_map,List.take_length]
   have hoL:out.length<10000000:=by omega
   push_cast -dsimp;refine seqIn (ro:=none) (by rfl) ?_;have c7:W.cell? ⟨w.heap.size+3,0,none⟩=some v:=P4.cell rfl;have hsh:=ho.slice;obtain⟨va,vc,rfl⟩:=hsh;push_cast -dsimp[c7];refine callK_of (setRight_c out (by omega) _ _ W ho.sl) ?_;rintro _ w8 ⟨rfl,hb8⟩;have hbs:=hbB.size;have l4:=P4.lt;have E1:=P1.below hb8 (by omega);have E2:=P2.below hb8 (by omega);have E4:=P4.below hb8 (by omega);have ho8:=ho.below hb8;have hbB8:=hbB.trans (hb8.mono hbs);have hD8:=(hb8.block w7.heap.size (Array.getElem?_eq_some_iff.1 hD).1).trans hD;have c8:w8.cell? ⟨w.heap.size+3,0,none⟩=some (.slice va out.length vc):=E4.cell rfl;cases hr:setRight (-2) out with
   | false =>
    have herr:∀l,¬PrintOf s l:=fun l hl=>by
     have:=hout l hl;subst this;rw[hl.1]at hr;cases hr
    push_cast -dsimp;refine storeK_of E1 (by simp) rfl ?_;intro wa hwa;have sza:wa.heap.size=w8.heap.size:=hwa.size;have Ta:Blk wa w.heap.size 44 [.slice none 0 0]:=hwa.blk;have Tb:=E2.kept hwa.kept (by omega);have hka:=hwa.kept;have hDa:=(hka.block w7.heap.size (by have:=(Array.getElem?_eq_some_iff.1 hD8).1;omega) (by omega)).trans hD8;have hba:=hbB8.trans (hka.below (B:=w.heap.size) (by have:=hbB8.size;omega) (fun i h=>by omega));push_cast -dsimp;refine storeK_of Tb (by simp) rfl ?_;intro wb hwb;have szb:wb.heap.size=wa.heap.size:=hwb.size;have Ub:=Ta.kept hwb.kept (by omega);have hkb:=hwb.kept;have hDb:=(hkb.block w7.heap.size (by have:=(Array.getElem?_eq_some_iff.1 hDa).1;omega) (by omega)).trans hDa;have hbb:=hba.trans (hkb.below (B:=w.heap.size) (by have:=hba.size;omega) (fun i h=>by omega));push_cast -dsimp;exact parse_end es7 Ub hwb.blk hDb hbb (.inr ⟨herr,rfl⟩) (by rfl) (by rfl)
   | true =>
    push_cast -dsimp[c8];refine callK_of (print_c out (by omega) (wr_right (a := -2) (by omega) hr) _ _ w8 ho8.sl (hd.below hbB8 hd.lt)) ?_;rintro _ w9 ⟨rfl,hb9⟩;have l48:=E4.lt;have E19:=E1.below hb9 (by have:=hb8.size;omega);have E29:=E2.below hb9 (by have:=hb8.size;omega);have E49:=E4.below hb9 (by have:=hb8.size;omega);have ho9:=ho8.below hb9;have hbB9:=hbB8.trans (hb9.mono hbB8.size);have hD9:=(hb9.block w7.heap.size (Array.getElem?_eq_some_iff.1 hD8).1).trans hD8;have c9:w9.cell? ⟨w.heap.size+3,0,none⟩=some (.slice va out.length vc):=E49.cell rfl;push_cast -dsimp;refine⟨fun hne=>?_,fun heq=>?_⟩
    ·have herr:∀l,¬PrintOf s l:=fun l hl=>by
      have:=hout l hl;subst this;exact hne hl.2
     refine storeK_of E19 (by simp) rfl ?_;intro wa hwa;have sza:wa.heap.size=w9.heap.size:=hwa.size;have Ta:Blk wa w.heap.size 44 [.slice none 0 0]:=hwa.blk;have Tb:=E29.kept hwa.kept (by omega);have hka:=hwa.kept;have hDa:=(hka.block w7.heap.size (by have:=(Array.getElem?_eq_some_iff.1 hD9).1;omega) (by omega)).trans hD9;have hba:=hbB9.trans (hka.below (B:=w.heap.size) (by have:=hbB9.size;omega) (fun i h=>by omega));push_cast -dsimp;refine storeK_of Tb (by simp) rfl ?_;intro wb hwb;have szb:wb.heap.size=wa.heap.size:=hwb.size;have Ub:=Ta.kept hwb.kept (by omega);have hkb:=hwb.kept;have hDb:=(hkb.block w7.heap.size (by have:=(Array.getElem?_eq_some_iff.1 hDa).1;omega) (by omega)).trans hDa;have hbb:=hba.trans (hkb.below (B:=w.heap.size) (by have:=hba.size;omega) (fun i h=>by omega));push_cast -dsimp;exact parse_end es7 Ub hwb.blk hDb hbb (.inr ⟨herr,rfl⟩) (by rfl) (by rfl)
    ·refine seqIn (ro:=none) (by rfl) ?_;push_cast -dsimp[c9];refine storeK_of E19 (by simp) rfl ?_;intro wa hwa;have sza:wa.heap.size=w9.heap.size:=hwa.size;have hka:=hwa.kept;have l49:=E49.lt;have Ta:Blk wa w.heap.size 44 [.slice va out.length vc]:=hwa.blk;have Tb:=E29.kept hwa.kept (by omega);have hoa:=ho9.keptX hwa.kept (fun g hg h=>by have:=(ho9.block g hg).1;omega);have lD:=(Array.getElem?_eq_some_iff.1 hD9).1;have hDa:=(hka.block w7.heap.size (by omega) (by omega)).trans hD9;have hba:=hbB9.trans (hka.below (B:=w.heap.size) (by omega) (fun i h=>by omega));push_cast -dsimp;refine storeK_of Tb (by simp) rfl ?_;intro wb hwb;have szb:wb.heap.size=wa.heap.size:=hwb.size;have hkb:=hwb.kept;have Ub:=Ta.kept hwb.kept (by omega);have hob':=hoa.keptX hwb.kept (fun g hg h=>by have:=(hoa.block g hg).1;omega);have hDb:=(hkb.block w7.heap.size (by omega) (by omega)).trans hDa;have hbb:=hba.trans (hkb.below (B:=w.heap.size) (by omega) (fun i h=>by omega));have hoe:=hob'.keptX (keptPut (X:=fun k=>k=w7.heap.size) wb w7.heap.size (.deferred none) rfl) (fun g hg h=>by have:=(hob'.block g hg).1;omega);push_cast -dsimp;refine wpIn_ret ?_;exact parse_end es7 Ub hwb.blk hDb hbb (.inl ⟨_,out,rfl,hoe.mono (by omega),hr,Classical.not_not.1 heq⟩) (by rfl) (by rfl)
  ·intro c pre W hSp hX hD;rcases hX with ⟨rfl,h1,h2,herr,hb⟩|⟨rfl,hbe,hI⟩
   ·refine wpIn_ret ?_;push_cast -dsimp;exact parse_end es7 h1 h2 hD hb (.inr ⟨herr,rfl⟩) (by rfl) (by rfl)
   ·obtain⟨v,out,P1,P2,P3,P4,ho,hol,hob,hol2,hbB⟩:=hI;have hout:∀l,PrintOf s l→out=l:=fun l hl=>by
     have hbb:body=bodyP l:=by rw[←hbody];exact(print_pre hl).2.2
     rw[hob hbe,bodyP_nil (hbb.symm.trans hbe)]
    have hoL:out.length<10000000:=by rw[hob hbe];decide
    refine wpIn_exit ?_;push_cast -dsimp;refine seqIn (ro:=none) (by rfl) ?_;have c7:W.cell? ⟨w.heap.size+3,0,none⟩=some v:=P4.cell rfl;have hsh:=ho.slice;obtain⟨va,vc,rfl⟩:=hsh;push_cast -dsimp[c7];refine callK_of (setRight_c out (by omega) _ _ W ho.sl) ?_;rintro _ w8 ⟨rfl,hb8⟩;have hbs:=hbB.size;have l4:=P4.lt;have E1:=P1.below hb8 (by omega);have E2:=P2.below hb8 (by omega);have E4:=P4.below hb8 (by omega);have ho8:=ho.below hb8;have hbB8:=hbB.trans (hb8.mono hbs);have hD8:=(hb8.block w7.heap.size (Array.getElem?_eq_some_iff.1 hD).1).trans hD;have c8:w8.cell? ⟨w.heap.size+3,0,none⟩=some (.slice va out.length vc):=E4.cell rfl;cases hr:setRight (-2) out with
    | false =>
     have herr:∀l,¬PrintOf s l:=fun l hl=>by
      have:=hout l hl;subst this;rw[hl.1]at hr;cases hr
     push_cast -dsimp;refine storeK_of E1 (by simp) rfl ?_;intro wa hwa;have sza:wa.heap.size=w8.heap.size:=hwa.size;have Ta:Blk wa w.heap.size 44 [.slice none 0 0]:=hwa.blk;have Tb:=E2.kept hwa.kept (by omega);have hka:=hwa.kept;have hDa:=(hka.block w7.heap.size (by have:=(Array.getElem?_eq_some_iff.1 hD8).1;omega) (by omega)).trans hD8;have hba:=hbB8.trans (hka.below (B:=w.heap.size) (by have:=hbB8.size;omega) (fun i h=>by omega));push_cast -dsimp;refine storeK_of Tb (by simp) rfl ?_;intro wb hwb;have szb:wb.heap.size=wa.heap.size:=hwb.size;have Ub:=Ta.kept hwb.kept (by omega);have hkb:=hwb.kept;have hDb:=(hkb.block w7.heap.size (by have:=(Array.getElem?_eq_some_iff.1 hDa).1;omega) (by omega)).trans hDa;have hbb:=hba.trans (hkb.below (B:=w.heap.size) (by have:=hba.size;omega) (fun i h=>by omega));push_cast -dsimp;exact parse_end es7 Ub hwb.blk hDb hbb (.inr ⟨herr,rfl⟩) (by rfl) (by rfl)
    | true =>
     push_cast -dsimp[c8];refine callK_of (print_c out (by omega) (wr_right (a := -2) (by omega) hr) _ _ w8 ho8.sl (hd.below hbB8 hd.lt)) ?_;rintro _ w9 ⟨rfl,hb9⟩;have l48:=E4.lt;have E19:=E1.below hb9 (by have:=hb8.size;omega);have E29:=E2.below hb9 (by have:=hb8.size;omega);have E49:=E4.below hb9 (by have:=hb8.size;omega);have ho9:=ho8.below hb9;have hbB9:=hbB8.trans (hb9.mono hbB8.size);have hD9:=(hb9.block w7.heap.size (Array.getElem?_eq_some_iff.1 hD8).1).trans hD8;have c9:w9.cell? ⟨w.heap.size+3,0,none⟩=some (.slice va out.length vc):=E49.cell rfl;push_cast -dsimp;refine⟨fun hne=>?_,fun heq=>?_⟩
     ·have herr:∀l,¬PrintOf s l:=fun l hl=>by
       have:=hout l hl;subst this;exact hne hl.2
      refine storeK_of E19 (by simp) rfl ?_;intro wa hwa;have sza:wa.heap.size=w9.heap.size:=hwa.size;have Ta:Blk wa w.heap.size 44 [.slice none 0 0]:=hwa.blk;have Tb:=E29.kept hwa.kept (by omega);have hka:=hwa.kept;have hDa:=(hka.block w7.heap.size (by have:=(Array.getElem?_eq_some_iff.1 hD9).1;omega) (by omega)).trans hD9;have hba:=hbB9.trans (hka.below (B:=w.heap.size) (by have:=hbB9.size;omega) (fun i h=>by omega));push_cast -dsimp;refine storeK_of Tb (by simp) rfl ?_;intro wb hwb;have szb:wb.heap.size=wa.heap.size:=hwb.size;have Ub:=Ta.kept hwb.kept (by omega);have hkb:=hwb.kept;have hDb:=(hkb.block w7.heap.size (by have:=(Array.getElem?_eq_some_iff.1 hDa).1;omega) (by omega)).trans hDa;have hbb:=hba.trans (hkb.below (B:=w.heap.size) (by have:=hba.size;omega) (fun i h=>by omega));push_cast -dsimp;exact parse_end es7 Ub hwb.blk hDb hbb (.inr ⟨herr,rfl⟩) (by rfl) (by rfl)
     ·refine seqIn (ro:=none) (by rfl) ?_;push_cast -dsimp[c9];refine storeK_of E19 (by simp) rfl ?_;intro wa hwa;have sza:wa.heap.size=w9.heap.size:=hwa.size;have hka:=hwa.kept;have l49:=E49.lt;have Ta:Blk wa w.heap.size 44 [.slice va out.length vc]:=hwa.blk;have Tb:=E29.kept hwa.kept (by omega);have hoa:=ho9.keptX hwa.kept (fun g hg h=>by have:=(ho9.block g hg).1;omega);have lD:=(Array.getElem?_eq_some_iff.1 hD9).1;have hDa:=(hka.block w7.heap.size (by omega) (by omega)).trans hD9;have hba:=hbB9.trans (hka.below (B:=w.heap.size) (by omega) (fun i h=>by omega));push_cast -dsimp;refine storeK_of Tb (by simp) rfl ?_;intro wb hwb;have szb:wb.heap.size=wa.heap.size:=hwb.size;have hkb:=hwb.kept;have Ub:=Ta.kept hwb.kept (by omega);have hob':=hoa.keptX hwb.kept (fun g hg h=>by have:=(hoa.block g hg).1;omega);have hDb:=(hkb.block w7.heap.size (by omega) (by omega)).trans hDa;have hbb:=hba.trans (hkb.below (B:=w.heap.size) (by omega) (fun i h=>by omega));have hoe:=hob'.keptX (keptPut (X:=fun k=>k=w7.heap.size) wb w7.heap.size (.deferred none) rfl) (fun g hg h=>by have:=(hob'.block g hg).1;omega);push_cast -dsimp;refine wpIn_ret ?_;exact parse_end es7 Ub hwb.blk hDb hbb (.inl ⟨_,out,rfl,hoe.mono (by omega),hr,Classical.not_not.1 heq⟩) (by rfl) (by rfl)
end Go.Proofs.YtodeeahdhnjpkaaGreatDoor
end
section
namespace Cae
inductive All2 {α β:Type}(R:α→β→Prop):List α→List β→Prop
 | nil:All2 R [] []
 | cons {x y l m}:R x y→All2 R l m→All2 R (x::l) (y::m)
theorem All2.snoc {α β:Type}{R:α→β→Prop}{l:List α}{m:List β}{x:α}{y:β}(h:All2 R l m)(hr:R x y):All2 R (l++[x]) (m++[y]):=by
 induction h with
 | nil=>exact .cons hr .nil
 | cons h1 _ ih=>exact .cons h1 ih
theorem All2.len {α β:Type}{R:α→β→Prop}{l:List α}{m:List β}(h:All2 R l m):l.length=m.length:=by
 induction h with
 | nil=>rfl
 | cons _ _ ih=>simp[ih]
def key (t:Cae.Tok):Nat×List UInt8:=(t.kind,t.text)
def EqT (a b:List Cae.Tok):Prop:=a.map key=b.map key
def EqH (a b:List Cae.Tok):Prop:=key (hd a)=key (hd b)
def NoEnd (a:List Cae.Tok):Prop:=∀t∈a,t.kind≠5
theorem EqT.refl (a:List Cae.Tok):EqT a a:=rfl
theorem EqT.len {a b:List Cae.Tok}(h:EqT a b):a.length=b.length:=by simpa[EqT] using congrArg List.length h
theorem EqT.split {a b c:List Cae.Tok}(h:EqT (a++b) c):∃x y,c=x++y∧EqT a x∧EqT b y:=by
 have h':a.map key++b.map key=c.map key:=by simpa[EqT] using h
 refine⟨c.take a.length,c.drop a.length,(List.take_append_drop _ _).symm,?_,?_⟩
 ·have:=congrArg (List.take a.length) h';simpa[EqT,List.take_append,List.map_take] using this
 ·have:=congrArg (List.drop a.length) h';simpa[EqT,List.drop_append,List.map_drop] using this
theorem EqH.app {a b c d:List Cae.Tok}(h:EqT a b)(h':EqH c d):EqH (a++c) (b++d):=by
 cases a with
 | nil=>cases b with
  | nil=>exact h'
  | cons y b=>simp[EqT]at h
 | cons x a=>cases b with
  | nil=>simp[EqT]at h
  | cons y b=>simp only[EqT,List.map_cons,List.cons.injEq]at h;exact h.1
theorem EqH.apps {a b:List Cae.Tok}(h:EqT a b)(hne:a≠[])(c d:List Cae.Tok):EqH (a++c) (b++d):=by
 cases a with
 | nil=>exact absurd rfl hne
 | cons x a=>cases b with
  | nil=>simp[EqT]at h
  | cons y b=>simp only[EqT,List.map_cons,List.cons.injEq]at h;exact h.1
def Lo {α β:Type}(R:α→β→Prop)(p:Pa α)(p':Pa β):Prop:=∀l x l',p l=.ok (x,l')→∃pre,NoEnd pre∧l=pre++l'∧∀pre2 l2,EqT pre pre2→EqH l' l2→∃x2,R x x2∧p' (pre2++l2)=.ok (x2,l2)
def LoS {α β:Type}(R:α→β→Prop)(p:Pa α)(p':Pa β):Prop:=∀l x l',p l=.ok (x,l')→∃pre,pre≠[]∧NoEnd pre∧l=pre++l'∧∀pre2 l2,EqT pre pre2→∃x2,R x x2∧p' (pre2++l2)=.ok (x2,l2)
section
variable {α β γ δ:Type} {R:α→β→Prop} {S:γ→δ→Prop} {p:Pa α} {p':Pa β} {q:α→Pa γ} {q':β→Pa δ}
theorem LoS.lo (h:LoS R p p'):Lo R p p':=fun l x l' e=>by
 obtain⟨pre,_,h1,h2,h3⟩:=h l x l' e;exact⟨pre,h1,h2,fun a b ha _=>h3 a b ha⟩
theorem Lo.pr {x:α}{y:β}(h:R x y):Lo R (pr x) (pr y):=fun l x' l' e=>by
 cases e;refine⟨[],by simp[NoEnd],rfl,fun pre2 l2 hp _=>?_⟩;have:pre2=[]:=List.length_eq_zero_iff.1 hp.len.symm;subst this;exact⟨y,h,rfl⟩
theorem Lo.fail {e:Nat}:Lo R (pfail e) p':=fun l x l' h=>by cases h
theorem LoS.fail {e:Nat}:LoS R (pfail e) p':=fun l x l' h=>by cases h
theorem pb_ok {p:Pa α}{q:α→Pa γ}{l l':List Cae.Tok}{y:γ}(h:pb p q l=.ok (y,l')):∃x l1,p l=.ok (x,l1)∧q x l1=.ok (y,l'):=by
 unfold pb at h;split at h
 ·cases h
 ·rename_i x l1 e;exact⟨x,l1,e,h⟩
theorem pb_of {p:Pa α}{q:α→Pa γ}{l l1:List Cae.Tok}{x:α}(h:p l=.ok (x,l1)):pb p q l=q x l1:=by
 unfold pb;rw[h]
theorem Lo.pb (h:Lo R p p')(k:∀x y,R x y→Lo S (q x) (q' y)):Lo S (pb p q) (pb p' q'):=fun l z l' e=>by
 obtain⟨x,l1,e1,e2⟩:=pb_ok e;obtain⟨a,na,rfl,ha⟩:=h l x l1 e1;obtain⟨y0,hy0,_⟩:=ha a l1 (EqT.refl _) rfl;obtain⟨b,nb,rfl,_⟩:=k x y0 hy0 _ z l' e2;refine⟨a++b,fun t ht=>(List.mem_append.1 ht).elim (na t) (nb t),by rw[List.append_assoc],fun pre2 l2 hp hh=>?_⟩;obtain⟨u,v,rfl,hu,hv⟩:=hp.split;rw[List.append_assoc];obtain⟨y,hy,ey⟩:=ha u (v++l2) hu (EqH.app hv hh);obtain⟨b',nb',eb,hb⟩:=k x y hy _ z l' e2;obtain rfl:=List.append_cancel_right eb;obtain⟨z2,hz,ez⟩:=hb v l2 hv hh;exact⟨z2,hz,by rw[pb_of ey];exact ez⟩
theorem LoS.pb (h:Lo R p p')(k:∀x y,R x y→LoS S (q x) (q' y)):LoS S (pb p q) (pb p' q'):=fun l z l' e=>by
 obtain⟨x,l1,e1,e2⟩:=pb_ok e;obtain⟨a,na,rfl,ha⟩:=h l x l1 e1;obtain⟨y0,hy0,_⟩:=ha a l1 (EqT.refl _) rfl;obtain⟨b,bne,nb,rfl,_⟩:=k x y0 hy0 _ z l' e2;refine⟨a++b,by simp[bne],fun t ht=>(List.mem_append.1 ht).elim (na t) (nb t),by rw[List.append_assoc],fun pre2 l2 hp=>?_⟩;obtain⟨u,v,rfl,hu,hv⟩:=hp.split;rw[List.append_assoc];obtain⟨y,hy,ey⟩:=ha u (v++l2) hu (EqH.apps hv bne _ _);obtain⟨b',_,nb',eb,hb⟩:=k x y hy _ z l' e2;obtain rfl:=List.append_cancel_right eb;obtain⟨z2,hz,ez⟩:=hb v l2 hv;exact⟨z2,hz,by rw[pb_of ey];exact ez⟩
theorem LoS.map {f:α→γ}{f':β→δ}(h:LoS R p p')(k:∀x y,R x y→S (f x) (f' y)):LoS S (Cae.pb p fun x=>Cae.pr (f x)) (Cae.pb p' fun y=>Cae.pr (f' y)):=fun l z l' e=>by
 obtain⟨x,l1,e1,e2⟩:=pb_ok e;cases e2;obtain⟨a,ane,na,rfl,ha⟩:=h l x l' e1;refine⟨a,ane,na,rfl,fun pre2 l2 hp=>?_⟩;obtain⟨y,hy,ey⟩:=ha pre2 l2 hp;exact⟨f' y,k x y hy,by rw[pb_of ey];rfl⟩
theorem Lo.pif {c c':List Cae.Tok→Bool}{p1 p2:Pa α}{p1' p2':Pa β}(hc:∀a b,EqH a b→c a=c' b)(h1:Lo R p1 p1')(h2:Lo R p2 p2'):Lo R (pif c p1 p2) (pif c' p1' p2'):=fun l x l' e=>by
 unfold Cae.pif at e;cases hcl:c l with
 | true =>
  rw[hcl]at e;obtain⟨a,na,rfl,ha⟩:=h1 l x l' e;refine⟨a,na,rfl,fun pre2 l2 hp hh=>?_⟩;obtain⟨y,hy,ey⟩:=ha pre2 l2 hp hh;refine⟨y,hy,?_⟩;unfold Cae.pif;rw[←hc _ _ (EqH.app hp hh),hcl];exact ey
 | false =>
  rw[hcl]at e;obtain⟨a,na,rfl,ha⟩:=h2 l x l' e;refine⟨a,na,rfl,fun pre2 l2 hp hh=>?_⟩;obtain⟨y,hy,ey⟩:=ha pre2 l2 hp hh;refine⟨y,hy,?_⟩;unfold Cae.pif;rw[←hc _ _ (EqH.app hp hh),hcl];exact ey
theorem LoS.pif {c c':List Cae.Tok→Bool}{p1 p2:Pa α}{p1' p2':Pa β}(hc:∀a b,EqH a b→c a=c' b)(h1:LoS R p1 p1')(h2:LoS R p2 p2'):LoS R (pif c p1 p2) (pif c' p1' p2'):=fun l x l' e=>by
 unfold Cae.pif at e;cases hcl:c l with
 | true =>
  rw[hcl]at e;obtain⟨a,ane,na,rfl,ha⟩:=h1 l x l' e;refine⟨a,ane,na,rfl,fun pre2 l2 hp=>?_⟩;obtain⟨y,hy,ey⟩:=ha pre2 l2 hp;refine⟨y,hy,?_⟩;unfold Cae.pif;rw[←hc _ _ (EqH.apps hp ane _ _),hcl];exact ey
 | false =>
  rw[hcl]at e;obtain⟨a,ane,na,rfl,ha⟩:=h2 l x l' e;refine⟨a,ane,na,rfl,fun pre2 l2 hp=>?_⟩;obtain⟨y,hy,ey⟩:=ha pre2 l2 hp;refine⟨y,hy,?_⟩;unfold Cae.pif;rw[←hc _ _ (EqH.apps hp ane _ _),hcl];exact ey
theorem Lo.peek:Lo (fun t u=>key t=key u) peek peek:=fun l x l' e=>by
 cases e;refine⟨[],by simp[NoEnd],rfl,fun pre2 l2 hp hh=>?_⟩;have:pre2=[]:=List.length_eq_zero_iff.1 hp.len.symm;subst this;exact⟨hd l2,hh,rfl⟩
theorem LoS.pop:LoS (fun _ _=>True) popP popP:=fun l x l' e=>by
 cases l with
 | nil=>cases e
 | cons t r =>
  by_cases h5:t.kind=5
  ·simp[popP,h5]at e
  ·have e':popP (t::r)=.ok ((),r):=by simp[popP,h5]
   rw[e']at e;cases e;refine⟨[t],by simp,by simpa[NoEnd] using h5,rfl,fun pre2 l2 hp=>⟨(),trivial,?_⟩⟩;cases pre2 with
   | nil=>simp[EqT]at hp
   | cons u v =>
    have hv:v=[]:=by
     have:=hp.len;simpa using this.symm
    subst hv;have hk:t.kind=u.kind:=by
     simp only[EqT,List.map_cons,List.map_nil,List.cons.injEq,key,Prod.mk.injEq]at hp;exact hp.1.1
    show popP (u::l2)=_
    have h5':¬u.kind=5:=by rw[←hk];exact h5
    simp[popP,h5']
end
theorem EqH.kind {a b:List Cae.Tok}(h:EqH a b):(hd a).kind=(hd b).kind:=(Prod.mk.inj h).1
theorem EqH.text {a b:List Cae.Tok}(h:EqH a b):(hd a).text=(hd b).text:=(Prod.mk.inj h).2
theorem c_kind (k:Nat)(a b:List Cae.Tok)(h:EqH a b):isKind k a=isKind k b:=by unfold isKind;rw[h.kind]
theorem c_see (s:List UInt8)(a b:List Cae.Tok)(h:EqH a b):seeP s a=seeP s b:=by unfold seeP;rw[h.kind,h.text]
theorem c_named (a b:List Cae.Tok)(h:EqH a b):namedP a=namedP b:=by unfold namedP;rw[h.kind,h.text]
theorem c_long (a b:List Cae.Tok)(h:EqH a b):longP a=longP b:=by unfold longP;rw[h.text]
theorem c_start (a b:List Cae.Tok)(h:EqH a b):startP a=startP b:=by unfold startP;rw[c_kind 3 a b h,c_named a b h,c_see _ a b h,c_see _ a b h,c_see _ a b h]
theorem c_unit (a b:List Cae.Tok)(h:EqH a b):unitStart a=unitStart b:=by unfold unitStart;rw[c_kind 3 a b h,c_named a b h]
def KE (k k2:KindP):Prop:=∀a,kindText k a=kindText k2 a
def PE (x x2:PatP):Prop:=∀n,patText x n=patText x2 n
theorem KE.not {p p2:Nat}{k k2:KindP}(h:KE k k2):KE (.not p k) (.not p2 k2):=fun a=>by simp only[kindText];rw[h]
theorem KE.bin {c p p2:Nat}{k k2 r r2:KindP}(h:KE k k2)(h':KE r r2):KE (.bin c p k r) (.bin c p2 k2 r2):=fun a=>by simp only[kindText];rw[h,h']
theorem pts_eq {l m:List PatP}(h:All2 PE l m)(n:Nat):patTexts l n=patTexts m n:=by
 induction h with
 | nil=>rfl
 | cons h1 _ ih=>simp only[patTexts];rw[h1,ih]
theorem PE.cat {l m:List PatP}(h:All2 PE l m):PE (.cat l) (.cat m):=fun n=>by simp only[patText];rw[pts_eq h]
theorem PE.alt {l m:List PatP}(h:All2 PE l m):PE (.alt l) (.alt m):=fun n=>by simp only[patText];rw[pts_eq h]
theorem PE.many {x x2:PatP}{lo hi:Int}(h:PE x x2):PE (.many x lo hi) (.many x2 lo hi):=fun n=>by simp only[patText];rw[h]
theorem PE.one {k k2:KindP}(h:KE k k2):PE (.one k) (.one k2):=fun n=>by simp only[patText];rw[h]
theorem PE.row {l m:List PatP}(h:All2 PE l m):PE (rowOf l) (rowOf m):=by
 cases h with
 | nil=>exact PE.cat .nil
 | cons h1 h2=>cases h2 with
  | nil=>exact h1
  | cons h3 h4=>exact PE.cat (.cons h1 (.cons h3 h4))
theorem PE.altOf {l m:List PatP}(h:All2 PE l m):PE (altOf l) (altOf m):=by
 cases h with
 | nil=>exact PE.alt .nil
 | cons h1 h2=>cases h2 with
  | nil=>exact h1
  | cons h3 h4=>exact PE.alt (.cons h1 (.cons h3 h4))
def TT {α β:Type}:α→β→Prop:=fun _ _=>True
theorem lo_pop:LoS TT popP popP:=LoS.pop
theorem lo_must (s:List UInt8):LoS TT (mustP s) (mustP s):=LoS.pif (c_see s) lo_pop LoS.fail
theorem lo_name:LoS Eq nameP nameP:=LoS.pif c_named (LoS.pif c_long LoS.fail (LoS.pb Lo.peek fun t u h=>LoS.map lo_pop fun _ _ _=>(Prod.mk.inj h).2)) LoS.fail
theorem lo_bin:Lo Eq binP binP:=Lo.pif (c_see _) (LoS.map lo_pop fun _ _ _=>rfl).lo (Lo.pif (c_see _) (LoS.map lo_pop fun _ _ _=>rfl).lo (Lo.pif (c_see _) (LoS.map lo_pop fun _ _ _=>rfl).lo (Lo.pr rfl)))
theorem lo_kindLoop {one one2:Pa KindP}(h:Lo KE one one2)(a b:Nat):∀(n:Nat) (k k2:KindP),KE k k2→Lo KE (kindLoop one a n k) (kindLoop one2 b n k2)
 | 0,_,_,_=>Lo.fail
 | n+1,k,k2,hk=>Lo.pb lo_bin fun c c2 e=>by
   subst e;by_cases h0:c=0
   ·rw[if_pos h0,if_pos h0];exact Lo.pr hk
   ·rw[if_neg h0,if_neg h0];exact Lo.pb h fun r r2 hr=>lo_kindLoop h a b n _ _ (KE.bin hk hr)
theorem lo_kindW {one one2:Pa KindP}(h:Lo KE one one2):Lo KE (kindW one) (kindW one2):=Lo.pb Lo.peek fun _ _ _=>Lo.pb h fun k k2 hk=>lo_kindLoop h _ _ _ _ _ hk
theorem lo_lit:LoS KE litP litP:=LoS.pb Lo.peek fun t u h=>by
 have ht:t.text=u.text:=(Prod.mk.inj h).2;rw[ht];cases setP u.text with
 | none=>exact LoS.fail
 | some s=>exact LoS.map lo_pop fun _ _ _ a=>rfl
theorem lo_one:∀d,Lo KE (oneP d) (oneP d)
 | 0=>Lo.fail
 | d+1=>Lo.pif (c_kind 3) lo_lit.lo (Lo.pif (c_see _) (Lo.pb Lo.peek fun _ _ _=>Lo.pb lo_pop.lo fun _ _ _=>Lo.pb (lo_one d) fun k k2 h=>Lo.pr (KE.not h))
   (Lo.pif (c_see _) (Lo.pb lo_pop.lo fun _ _ _=>Lo.pb (lo_kindW (lo_one d)) fun k k2 h=>(LoS.map (lo_must _) fun _ _ _=>h).lo)
    (Lo.pb Lo.peek fun _ _ _=>(LoS.map lo_name fun n n2 e a=>by simp only[kindText];exact e).lo)))
theorem lo_times:LoS Eq timesP timesP:=LoS.pif (c_kind 2) (LoS.pb Lo.peek fun t u h=>by
 have ht:t.text=u.text:=(Prod.mk.inj h).2;rw[ht];by_cases h0:12<decV u.text
 ·rw[if_pos h0];exact LoS.fail
 ·rw[if_neg h0];exact LoS.map lo_pop fun _ _ _=>rfl) LoS.fail
theorem lo_braces:Lo Eq bracesP bracesP:=Lo.pb lo_times.lo fun lo lo2 e=>by
 subst e;refine Lo.pif (c_see _) (Lo.pb lo_pop.lo fun _ _ _=>Lo.pif (c_kind 2) (Lo.pb lo_times.lo fun hi hi2 e=>?_) (LoS.map (lo_must _) fun _ _ _=>rfl).lo) (LoS.map (lo_must _) fun _ _ _=>rfl).lo;subst e;by_cases h0:hi<lo
 ·rw[if_pos h0];exact Lo.fail
 ·rw[if_neg h0];exact(LoS.map (lo_must _) fun _ _ _=>rfl).lo
theorem lo_suffix:Lo Eq suffixP suffixP:=Lo.pif (c_see _) (LoS.map lo_pop fun _ _ _=>rfl).lo (Lo.pif (c_see _) (LoS.map lo_pop fun _ _ _=>rfl).lo (Lo.pif (c_see _) (LoS.map lo_pop fun _ _ _=>rfl).lo
 (Lo.pif (c_see _) (Lo.pb lo_pop.lo fun _ _ _=>Lo.pb lo_braces fun r r2 e=>Lo.pr (by rw[e])) (Lo.pr rfl))))
theorem lo_againLoop (d:Nat):∀(n c:Nat) (x x2:PatP),PE x x2→Lo PE (againLoop d n c x) (againLoop d n c x2)
 | 0,_,_,_,_=>Lo.fail
 | n+1,c,x,x2,h=>Lo.pb lo_suffix fun r r2 e=>by
   subst e;cases r with
   | none=>exact Lo.pr h
   | some q =>
    show Lo PE (if d≤c+1 then _ else _) (if d≤c+1 then _ else _)
    by_cases h0:d≤c+1
    ·rw[if_pos h0,if_pos h0];exact Lo.fail
    ·rw[if_neg h0,if_neg h0];exact lo_againLoop d n (c+1) _ _ (PE.many h)
theorem lo_againW {d:Nat}{unit unit2:Pa PatP}(h:Lo PE unit unit2):Lo PE (againW d unit) (againW d unit2):=Lo.pb h fun x x2 hx=>lo_againLoop d _ _ _ _ hx
theorem lo_rowLoop {again again2:Pa PatP}(h:Lo PE again again2):∀(n:Nat) (a b:List PatP),All2 PE a b→Lo (All2 PE) (rowLoop again n a) (rowLoop again2 n b)
 | 0,_,_,_=>Lo.fail
 | n+1,a,b,hab=>Lo.pif c_start (Lo.pb h fun x x2 hx=>lo_rowLoop h n _ _ (hab.snoc hx)) (Lo.pr hab)
theorem lo_rowW {again again2:Pa PatP}(h:Lo PE again again2):Lo PE (rowW again) (rowW again2):=Lo.pb (lo_rowLoop h _ _ _ .nil) fun _ _ hx=>Lo.pr (PE.row hx)
theorem lo_altLoop {row row2:Pa PatP}(h:Lo PE row row2):∀(n:Nat) (a b:List PatP),All2 PE a b→Lo (All2 PE) (altLoop row n a) (altLoop row2 n b)
 | 0,_,_,_=>Lo.fail
 | n+1,a,b,hab=>Lo.pif (c_see _) (Lo.pb lo_pop.lo fun _ _ _=>Lo.pb h fun x x2 hx=>lo_altLoop h n _ _ (hab.snoc hx)) (Lo.pr hab)
theorem lo_altW {row row2:Pa PatP}(h:Lo PE row row2):Lo PE (altW row) (altW row2):=Lo.pb h fun x x2 hx=>Lo.pb (lo_altLoop h _ _ _ (.cons hx .nil)) fun _ _ hx=>Lo.pr (PE.altOf hx)
theorem lo_patW {d:Nat}{unit unit2:Pa PatP}(h:Lo PE unit unit2):Lo PE (patW d unit) (patW d unit2):=by
 unfold patW;by_cases h0:d=0
 ·rw[if_pos h0,if_pos h0];exact Lo.fail
 ·rw[if_neg h0,if_neg h0];exact lo_altW (lo_rowW (lo_againW h))
theorem lo_unit:∀d,Lo PE (unitP d) (unitP d)
 | 0=>Lo.fail
 | d+1=>Lo.pif (c_see _) (LoS.map lo_pop fun _ _ _ _=>rfl).lo (Lo.pif (c_see _) (LoS.map lo_pop fun _ _ _ _=>rfl).lo
   (Lo.pif (c_see _) (Lo.pb lo_pop.lo fun _ _ _=>Lo.pb (lo_patW (lo_unit d)) fun x x2 h=>(LoS.map (lo_must _) fun _ _ _=>h).lo)
    (Lo.pif c_unit (Lo.pb (lo_one (d+1)) fun k k2 h=>Lo.pr (PE.one h)) Lo.fail)))
theorem lo_pat (d:Nat):Lo PE (patP d) (patP d):=lo_patW (lo_unit d)
theorem lo_says:LoS Eq saysP saysP:=LoS.pif (c_see _) (LoS.map lo_pop fun _ _ _=>rfl) (LoS.map (lo_must _) fun _ _ _=>rfl)
def RE (r r2:RuleP):Prop:=ruleText r=ruleText r2
theorem lo_rule:LoS RE ruleP ruleP:=LoS.pb Lo.peek fun t t2 _=>LoS.pb lo_says.lo fun b b2 e=>LoS.pb (lo_pat 9) fun x x2 hx=>LoS.pb (lo_must _).lo fun _ _ _=>LoS.pb (lo_pat 9) fun y y2 hy=>LoS.map (lo_must _) fun _ _ _=>by
 subst e
 show ruleText _=ruleText _
 unfold ruleText;rw[hx 0,hy 0]
inductive Tk:Nat→List UInt8→List Cae.Tok→Prop
 | nil (i):Tk i [] []
 | blank {i c r l}:(c=32∨c=10)→Tk (i+1) r l→Tk i (c::r) l
 | note {i c r l}:¬(c=32∨c=10)→c=35→Tk (i+runP (· != 10) (c::r)) ((c::r).drop (runP (· != 10) (c::r))) l→Tk i (c::r) l
 | tok {i c r l}:¬(c=32∨c=10)→¬c=35→(nextT (c::r)).2≠0→Tk (i+(nextT (c::r)).2) ((c::r).drop (nextT (c::r)).2) l→Tk i (c::r) (⟨(nextT (c::r)).1,(c::r).take (nextT (c::r)).2,i⟩::l)
theorem runP_le (f:UInt8→Bool)(s:List UInt8):runP f s≤s.length:=by
 unfold runP
 have:=List.takeWhile_append_dropWhile (p:=f) (l:=s);have h:=congrArg List.length this;rw[List.length_append]at h;omega
theorem runP_pos {f:UInt8→Bool}{c:UInt8}{r:List UInt8}(h:f c=true):0<runP f (c::r):=by
 unfold runP;rw[List.takeWhile_cons,if_pos h,List.length_cons];omega
theorem contains_run {s:List UInt8}{c:UInt8}(h:s.contains c=true):runP (· != c) s<s.length:=by
 induction s with
 | nil=>simp at h
 | cons x s ih =>
  unfold runP at *
  by_cases hx:x=c
  ·subst hx;simp[List.takeWhile_cons]
  ·have h':s.contains c=true:=by
    rw[List.contains_cons]at h;have:(c == x)=false:=by simpa using Ne.symm hx
    rw[this]at h;simpa using h
   rw[List.takeWhile_cons,if_pos (by simpa using hx),List.length_cons,List.length_cons]
   have:=ih h';omega
theorem nextT_cons (c:UInt8)(r:List UInt8):nextT (c::r)=if letterP c then (1,runP (fun c=>letterP c || digitP c) (c::r)) else if digitP c then (2,runP digitP (c::r))
  else if c=91 then (3,if (c::r).contains 93 then runP (· != 93) (c::r)+1 else 0) else if markL.contains c then (4,1) else (4,0):=rfl
theorem nextT_le (c:UInt8)(r:List UInt8):(nextT (c::r)).2≤(c::r).length:=by
 rw[nextT_cons];split
 ·exact runP_le _ _
 ·split
  ·exact runP_le _ _
  ·split
   ·split
    ·rename_i h;exact contains_run h
    ·simp
   ·split<;>simp
theorem tokLoop_tk:∀(n i:Nat) (s:List UInt8) (acc r:List Cae.Tok),acc.length≤500→tokLoop n i s acc=.ok r→∃l,Tk i s l∧r=acc++l++[⟨5,[],i+s.length⟩]∧acc.length+l.length≤500
 | 0,_,_,_,_,_,h=>by cases h
 | n+1,i,[],acc,r,ha,h=>by
   cases h;exact⟨[],.nil i,by simp,by simpa using ha⟩
 | n+1,i,c::s,acc,r,ha,h=>by
   unfold tokLoop at h;by_cases h1:c=32∨c=10
   ·rw[if_pos h1]at h;obtain⟨l,hl,e,hn⟩:=tokLoop_tk n _ _ _ _ ha h;exact⟨l,.blank h1 hl,by rw[e,List.length_cons,Nat.add_right_comm,Nat.add_assoc],hn⟩
   ·rw[if_neg h1]at h;by_cases h2:c=35
    ·rw[if_pos h2]at h;obtain⟨l,hl,e,hn⟩:=tokLoop_tk n _ _ _ _ ha h
     have:=runP_le (· != 10) (c::s);exact⟨l,.note h1 h2 hl,by rw[e,List.length_drop,Nat.add_assoc,Nat.add_sub_cancel' this],hn⟩
    ·rw[if_neg h2]at h;by_cases h3:(nextT (c::s)).2=0
     ·rw[if_pos h3]at h;cases h
     ·rw[if_neg h3]at h;by_cases h4:acc.length=500
      ·rw[if_pos h4]at h;cases h
      ·rw[if_neg h4]at h;obtain⟨l,hl,e,hn⟩:=tokLoop_tk n _ _ _ _ (by rw[List.length_append,List.length_singleton];omega) h
       have:=nextT_le c s;exact⟨_::l,.tok h1 h2 h3 hl,by rw[e,List.length_drop,Nat.add_assoc,Nat.add_sub_cancel' this];simp,by rw[List.length_append,List.length_singleton]at hn;rw[List.length_cons];omega⟩
theorem Tk.inside {i:Nat}{s:List UInt8}{l:List Cae.Tok}(h:Tk i s l):∀t∈l,t.text <:+: s:=by
 induction h with
 | nil i=>simp
 | @blank i c r l h1 hl ih=>exact fun t ht=>(ih t ht).trans (List.suffix_cons c r).isInfix
 | @note i c r l h1 h2 hl ih=>exact fun t ht=>(ih t ht).trans (List.drop_suffix _ _).isInfix
 | @tok i c r l h1 h2 h3 hl ih =>
  intro t ht;rcases List.mem_cons.1 ht with rfl|ht
  ·exact(List.take_prefix _ _).isInfix
  ·exact(ih t ht).trans (List.drop_suffix _ _).isInfix
def sumT (l:List Cae.Tok):Nat:=(l.map fun t=>t.text.length).sum
theorem Tk.sum {i:Nat}{s:List UInt8}{l:List Cae.Tok}(h:Tk i s l):sumT l≤s.length∧∀t∈l,0<t.text.length:=by
 induction h with
 | nil i=>simp[sumT]
 | @blank i c r l h1 hl ih=>exact⟨by rw[List.length_cons];omega,ih.2⟩
 | @note i c r l h1 h2 hl ih=>exact⟨by have:=ih.1;rw[List.length_drop]at this;omega,ih.2⟩
 | @tok i c r l h1 h2 h3 hl ih =>
  have h4:=nextT_le c r;have h5:=ih.1;rw[List.length_drop]at h5;have h6:((c::r).take (nextT (c::r)).2).length=(nextT (c::r)).2:=by rw[List.length_take];omega
  refine⟨?_,fun t ht=>?_⟩
  ·have:sumT (⟨(nextT (c::r)).1,(c::r).take (nextT (c::r)).2,i⟩::l)=((c::r).take (nextT (c::r)).2).length+sumT l:=by simp[sumT]
   rw[this,h6];omega
  ·rcases List.mem_cons.1 ht with rfl|ht
   ·show 0<((c::r).take (nextT (c::r)).2).length
    rw[h6];omega
   ·exact ih.2 t ht
theorem parseR_ok {s:List UInt8}{f:FileP}(h:parseR s=.ok f):∃l l',Tk 0 s l∧l.length≤500∧fileP (l++[⟨5,[],s.length⟩])=.ok (f,l')∧isKind 5 l'=true:=by
 unfold parseR at h;split at h
 ·cases h
 ·rename_i l ht;split at h
  ·cases h
  ·rename_i g l' hf;split at h
   ·rename_i hk;cases h;obtain⟨m,hm,e,hn⟩:=tokLoop_tk _ _ _ _ _ (by simp) ht;simp only[List.nil_append,Nat.zero_add]at e;subst e;exact⟨m,l',hm,by simpa using hn,hf,hk⟩
   ·cases h
theorem fileP_ok {l l':List Cae.Tok}{f:FileP}(h:fileP l=.ok (f,l')):∃l1 l2,classLoop 1000 [] l=.ok (f.classes,l1)∧ruleLoop 1000 [] l1=.ok (f.rules,l2)∧elseP l2=.ok (f.els,l'):=by
 obtain⟨cs,l1,h1,h⟩:=pb_ok h;obtain⟨rs,l2,h2,h⟩:=pb_ok h;obtain⟨b,l3,h3,h⟩:=pb_ok h;cases h;exact⟨l1,l2,h1,h2,h3⟩
end Cae
end
