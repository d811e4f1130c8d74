/- Part. -/
import Derived.Test.YtemjejfpadnljaaGreatDoorM3
import Derived.Shelf.Strings.OnBuilder
import Derived.Shelf.Strings.Search3
import Derived.Shelf.Small.Wraps
import Derived.Lib.IfaceEq
import Derived.Lib.IfaceNeq
set_option maxRecDepth 100000
set_option linter.unusedSimpArgs false
set_option linter.unusedVariables false
set_option maxHeartbeats 8000000
namespace Go.Vc
open Go.RowKit
theorem aOr {L:VP}{other:Prop}(c:Bool)(n k n' k':Nat)(p):cX 3 c .eql (.slice none n k) (.slice none n' k') L other p=L (.bool true):=by cases c<;>rfl
theorem aKk {L:VP}{other:Prop}(c:Bool)(a:Addr)(n k n' k':Nat)(p):cX 3 c .eql (.slice (some a) n k) (.slice none n' k') L other p=L (.bool false):=by cases c<;>rfl
theorem rq {α β:Type}{w:World}{base Pp k k':Nat}{e e':TypeId}{enc:α->List Value}{aOq:β->List Value}{v v':Value}{l:List α}{l':List β}(h:Vc.Own base e k enc w v l)(h':Vc.Own Pp e' k' aOq w v' l')(cf:e≠e'):∀g,v.ownBlock=some g->v'.ownBlock≠some g:=λg hg x6=>by
 rcases h.1.2 with ⟨he,_⟩|⟨g1,cap,cur,he,_,h1,_⟩
 ·rw[he]at hg;cases hg
 rcases h'.1.2 with ⟨QO,_⟩|⟨g2,aUp,SE,QO,_,h2,_⟩
 ·rw[QO]at x6;cases x6
 rw[he]at hg;rw[QO]at x6;have e1:g1=g:=by simpa[Value.ownBlock] using hg
 have e2:g2=g:=by simpa[Value.ownBlock] using x6
 subst e1 e2;rw[h1]at h2;cases h2;exact cf rfl
theorem aMY {α:Type}{f:α->Value}{w:World}{b c n:Nat}{e:TypeId}{l:List α}(hB:aN w b e (l.map f))(hn:n=l.length)(hc:l.length<=c):Sl (λ_=>False) 1 (En (λx=>[f x])) w (.slice (some ⟨b,0,none⟩) n c) l:=by
 subst hn;refine⟨_,_,rfl,hc,λi x hx=>⟨b,0,[f x],rfl,id,rfl,λj u hu=>?_,rfl⟩⟩;cases j with
 | zero =>
  simp at hu;subst hu;rw[Nat.mul_one,Nat.add_zero,Nat.zero_add];exact hB.cell (by rw[List.getElem?_map,hx];rfl)
 | succ j=>simp at hu
theorem G2 {α:Type}[DecidableEq α][BEq α][LawfulBEq α](a b:α):(a == b)=decide (a=b):=by
 by_cases h:a=b
 ·subst h;simp
 rw[decide_eq_false h];exact beq_eq_false_iff_ne.2 h
theorem Pq (a b:List UInt8):((⟨a.toArray⟩:ByteArray) == ⟨b.toArray⟩)=decide (a=b):=by
 show (a.toArray == b.toArray)=_
 rw[List.beq_toArray];exact G2 a b
section
set_option linter.unusedSectionVars false
variable {P:Program} {α:Type} [DecidableEq α]
structure vF (P:Program)(kt:TypeId)(key:α->Value):Prop where
 und:∃d,P.underlying kt=some d/\∀a b,Instr.sameNow d (key a) (key b)=some (decide (a=b))
 bits:∀n a,Instr.sameBits n (key a) (key a)=true
 check:∀em n a w,(Instr.checkKey em (n+1) kt (key a)).run P w=.ok () w
theorem OO {kt:TypeId}(hk:P.underlying kt=some (.int .i64)):vF P kt (λn:Nat=>Value.int .i64 (n:Int)) where
 und:=⟨_,hk,λa b=>by simp only[Instr.sameNow,if_true,Option.some.injEq];rw[G2,decide_eq_decide];exact Int.ofNat_inj⟩
 bits:=λn a=>by cases n<;>simp[Instr.sameBits]
 check:=λem n a w=>by simp[Instr.checkKey,run_underlying hk]
theorem o6 {kt:TypeId}(hk:P.underlying kt=some .string):vF P kt (λl:List UInt8=>str l) where
 und:=⟨_,hk,λa b=>by
  simp only[str,Instr.sameNow,Option.some.injEq];exact Pq a b⟩
 bits:=λn a=>by have:=(Pq a a).trans (decide_eq_true rfl);cases n<;>simpa[str,Instr.sameBits] using this
 check:=λem n a w=>by simp[str,Instr.checkKey,run_underlying hk]
def nd (key:α->Value)(w:World)(b:Nat)(iD:List (α×Value)):Prop :=
 ∃(es:Array MapEntry) (clock:Nat),w.heap[b]?=some (.map es clock)/\(es.toList.map λe=>(e.key,e.val))=iD.map λp=>(key p.1,p.2)
def eM (k:α):List (α×Value)->Option Value
 | []=>none
 | p::r=>if k=p.1 then some p.2 else eM k r
def Ey (k:α)(v:Value):List (α×Value)->List (α×Value)
 | []=>[(k,v)]
 | p::r=>if k=p.1 then (p.1,v)::r else p::Ey k v r
variable {key:α->Value}
theorem nd.kept {X:Nat->Prop}{w w':World}{b:Nat}{iD:List (α×Value)}(h:nd key w b iD)(hk:Kept X w w')(hX:¬X b):nd key w' b iD:=by
 obtain⟨es,clock,h1,h2⟩:=h;exact⟨es,clock,(hk.block b (Array.getElem?_eq_some_iff.1 h1).1 hX).trans h1,h2⟩
theorem nd.lt {w:World}{b:Nat}{iD:List (α×Value)}(h:nd key w b iD):b<w.heap.size:=by
 obtain⟨es,clock,h1,h2⟩:=h;exact(Array.getElem?_eq_some_iff.1 h1).1
theorem nd.below {B:Nat}{w w':World}{b:Nat}{iD:List (α×Value)}(h:nd key w b iD)(hk:Below B w w')(hX:b<B):nd key w' b iD:=by
 obtain⟨es,clock,h1,h2⟩:=h;exact⟨es,clock,(hk.block b hX).trans h1,h2⟩
theorem xv {d:TypeDesc}(hd:∀a b,Instr.sameNow d (key a) (key b)=some (decide (a=b)))(k:α):∀(es:List MapEntry) (iD:List (α×Value)) (i:Nat),(es.map λe=>(e.key,e.val))=(iD.map λp=>(key p.1,p.2)) ->
  ∃r,Instr.findNow d (key k) es i=some r/\((∃j e u,r=some (j,u)/\i<=j/\es[j-i]?=some e/\e.key=key k/\eM k iD=some u/\∀v,(es.modify (j-i) (λe=>{ e with key:=key k,val:=v })).map (λe=>(e.key,e.val))=(Ey k v iD).map λp=>(key p.1,p.2)) \/
   (r=none/\eM k iD=none/\∀v,Ey k v iD=iD++[(k,v)]))
 | [],[],i,_=>⟨none,rfl,.inr ⟨rfl,rfl,λ_=>rfl⟩⟩
 | [],_::_,_,h=>by simp at h
 | _::_,[],_,h=>by simp at h
 | e::es,p::iD,i,h=>by
  simp only[List.map_cons,List.cons.injEq,Prod.mk.injEq]at h;obtain⟨⟨h1,h2⟩,h3⟩:=h;rw[Instr.findNow,h1,hd];by_cases hx:k=p.1
  ·rw[decide_eq_true hx];refine⟨some (i,e.val),rfl,.inl ⟨i,e,e.val,rfl,Nat.le_refl _,by simp,by rw[h1,hx],by rw[eM,if_pos hx,h2],λv=>?_⟩⟩;rw[Nat.sub_self,Ey,if_pos hx];simp[h3,hx]
  rw[decide_eq_false hx];obtain⟨r,hr,hh⟩:=xv hd k es iD (i+1) h3;refine⟨r,hr,?_⟩;rcases hh with ⟨j,e',u,h4,h5,h6,h7,h8,h9⟩|⟨h4,h5,h6⟩
  ·refine .inl ⟨j,e',u,h4,by omega,?_,h7,by rw[eM,if_neg hx,h8],λv=>?_⟩
   ·rw[show j-i=(j-(i+1))+1 by omega]
    simpa using h6
   rw[show j-i=(j-(i+1))+1 by omega,Ey,if_neg hx]
   simp only[List.modify_succ_cons,List.map_cons,h1,h2];rw[h9 v]
  exact .inr ⟨h4,by rw[eM,if_neg hx,h5],λv=>by rw[Ey,if_neg hx,h6 v];rfl⟩
theorem LG {mt kt et:TypeId}{w:World}{b:Nat}{iD:List (α×Value)}{z:Value}(hm:P.underlying mt=some (.map kt et))(hk:vF P kt key)(hz:(P.info? et).bind (·.zero)=some z)(h:nd key w b iD)(k:α)(c:Bool) :
  (Instr.lookup mt (.map (some b)) (key k) c).run P w=.ok (if c then .tuple #[(eM k iD).getD z,.bool (eM k iD).isSome] else (eM k iD).getD z) w:=by
 obtain⟨es,clock,h1,h2⟩:=h;obtain⟨i,hi,hz⟩:=Option.bind_eq_some_iff.1 hz;obtain⟨d,hd,hs⟩:=hk.und;obtain⟨r,hr,hh⟩:=xv hs k es.toList iD 0 h2;have hck:(Instr.checkKey es.isEmpty 10000 kt (key k)).run P w=.ok () w:=hk.check _ 9999 k w;have hfk:(Instr.findKey kt (key k) es.toList).run P w=.ok r w:=by simp[Instr.findKey,run_underlying hd,hr]
 have Ae:(getObj b).run P w=.ok (.map es clock) w:=by simp[getObj,Sem.run,h1]
 rcases hh with ⟨j,e,u,rfl,_,_,_,ha,_⟩|⟨rfl,ha,_⟩
 ·simp[Instr.lookup,run_underlying hm,Ae,hck,hfk,ha]
 simp[Instr.lookup,run_underlying hm,Ae,hck,hfk,ha,zeroValue,typeInfo,hi,hz]
theorem MY {mt kt et:TypeId}{w:World}{b:Nat}{iD:List (α×Value)}(hm:P.underlying mt=some (.map kt et))(hk:vF P kt key)(h:nd key w b iD)(k:α)(v:Value) :
  ∃w',(Instr.mapUpdate mt (.map (some b)) (key k) v).run P w=.ok () w'/\nd key w' b (Ey k v iD)/\Kept (·=b) w w'/\w'.heap.size=w.heap.size:=by
 obtain⟨es,clock,h1,h2⟩:=h;have aq:=(Array.getElem?_eq_some_iff.1 h1).1;obtain⟨d,hd,hs⟩:=hk.und;obtain⟨r,hr,hh⟩:=xv hs k es.toList iD 0 h2;have hck:(Instr.checkKey false 10000 kt (key k)).run P w=.ok () w:=hk.check _ 9999 k w;have hfk:(Instr.findKey kt (key k) es.toList).run P w=.ok r w:=by simp[Instr.findKey,run_underlying hd,hr]
 have Ae:(getObj b).run P w=.ok (.map es clock) w:=by simp[getObj,Sem.run,h1]
 have uS:∀o,(setObj b o).run P w=.ok () { w with heap:=w.heap.setIfInBounds b o }:=λo=>by simp[setObj,Sem.run,h1]
 have QV:∀o,Kept (·=b) w { w with heap:=w.heap.setIfInBounds b o }:=λo=>⟨rfl,rfl,rfl,by simp,λi hi cf=>by simp[Array.getElem?_setIfInBounds,Ne.symm cf]⟩;rcases hh with ⟨j,e,u,rfl,_,he,hek,ha,hp⟩|⟨rfl,ha,hp⟩
 ·have aPZ:es[j]?=some e:=by simpa using he
  have aQo:(Instr.keyThatStays e.key (key k)).run P w=.ok (key k) w:=by
   have:Instr.sameBits 10000 e.key (key k)=true:=by rw[hek];exact hk.bits 10000 k
   simp only[Instr.keyThatStays,this,if_true];rfl
  refine⟨{ w with heap:=w.heap.setIfInBounds b (.map (es.modify j λe=>{ e with key:=key k,val:=v }) clock) },?_,⟨es.modify j λe=>{ e with key:=key k,val:=v },clock,?_,?_⟩,QV _,by simp⟩
  ·simp[Instr.mapUpdate,run_underlying hm,Ae,hck,hfk,aPZ,aQo,uS]
  ·simp[aq]
  rw[<-hp v,Nat.sub_zero,Array.toList_modify]
 refine⟨{ w with heap:=w.heap.setIfInBounds b (.map (es.push { key:=key k,val:=v,born:=clock }) (clock+1)) },?_,⟨es.push { key:=key k,val:=v,born:=clock },clock+1,?_,?_⟩,QV _,by simp⟩
 ·simp[Instr.mapUpdate,run_underlying hm,Ae,hck,hfk,uS]
 ·simp[aq]
 rw[hp v];simp[h2]
theorem IQ {mt kt et:TypeId}{w:World}{b:Nat}{iD:List (α×Value)}{z:Value}{t:Fr}{K:VK}{Q:EP}{p}{c:Bool}{k:α}(hm:P.underlying mt=some (.map kt et))(hk:vF P kt key)(hz:(P.info? et).bind (·.zero)=some z)(h:nd key w b iD)
  (kk:K (if c then .tuple #[(eM k iD).getD z,.bool (eM k iD).isSome] else (eM k iD).getD z) w):ak P (Instr.lookup mt (.map (some b)) (key k) c) t w K Q p:=fN (LG hm hk hz h k c) kk
theorem aEH {mt kt et:TypeId}{w:World}{b:Nat}{iD:List (α×Value)}{t:Fr}{K:VK}{Q:EP}{k:α}{v:Value}(hm:P.underlying mt=some (.map kt et))(hk:vF P kt key)(h:nd key w b iD)
  (kk:∀w',nd key w' b (Ey k v iD)->Kept (·=b) w w'->w'.heap.size=w.heap.size->K undef w'):aY P (Instr.mapUpdate mt (.map (some b)) (key k) v) t w K Q .mk:=by
 obtain⟨w',hr,h1,h2,h3⟩:=MY hm hk h k v;exact Da hr (kk w' h1 h2 h3)
theorem qJ {mt kt et:TypeId}{w:World}{b:Nat}{iD:List (α×Value)}{z kv u:Value}{t:Fr}{K:VK}{Q:EP}{p}{k:α}(hm:P.underlying mt=some (.map kt et))(hk:vF P kt key)(hz:(P.info? et).bind (·.zero)=some z)(h:nd key w b iD)(Bt:kv=key k)(ha:eM k iD=some u)
  (kk:K (.tuple #[u,.bool true]) w):ak P (Instr.lookup mt (.map (some b)) kv true) t w K Q p:=by
 subst Bt;refine IQ hm hk hz h ?_;rw[ha];exact kk
theorem qI {mt kt et:TypeId}{w:World}{b:Nat}{iD:List (α×Value)}{z kv:Value}{t:Fr}{K:VK}{Q:EP}{p}{k:α}(hm:P.underlying mt=some (.map kt et))(hk:vF P kt key)(hz:(P.info? et).bind (·.zero)=some z)(h:nd key w b iD)(Bt:kv=key k)(ha:eM k iD=none)
  (kk:K (.tuple #[z,.bool false]) w):ak P (Instr.lookup mt (.map (some b)) kv true) t w K Q p:=by
 subst Bt;refine IQ hm hk hz h ?_;rw[ha];exact kk
theorem GA {k:α}{v:Value}:∀{iD:List (α×Value)},eM k iD=none->Ey k v iD=iD++[(k,v)]
 | [],_=>rfl
 | p::r,h=>by
  rw[eM]at h;split at h
  ·cases h
  rename_i cf;rw[Ey,if_neg cf,GA h];rfl
theorem jd {mt kt et:TypeId}{w:World}{b:Nat}{iD:List (α×Value)}{t:Fr}{K:VK}{Q:EP}{k:α}{v kv:Value}(hm:P.underlying mt=some (.map kt et))(hk:vF P kt key)(h:nd key w b iD)(Bt:kv=key k)(ha:eM k iD=none)
  (kk:∀w',nd key w' b (iD++[(k,v)])->Kept (·=b) w w'->w'.heap.size=w.heap.size->K undef w'):aY P (Instr.mapUpdate mt (.map (some b)) kv v) t w K Q .mk:=by
 subst Bt;refine aEH hm hk h ?_;rw[GA ha];exact kk
theorem CZ {mt:TypeId}{w:World}{t:Fr}{K:VK}{Q:EP}{p}{key:α->Value}(kk:∀w',nd key w' w.heap.size []->Below w.heap.size w w'->w'.heap.size=w.heap.size+1->K (.map (some w.heap.size)) w'):ak P (Instr.makeMap mt none) t w K Q p :=
 fN (w':=w.alloc (.map #[] 0)) (v:=.map (some w.heap.size)) rfl (kk _ ⟨#[],0,heap_alloc_new w _,rfl⟩ ((Below.refl _ _).alloc (Nat.le_refl _) _) (by simp))
end
def oQ (C D:World->Prop)(m:Nat)(listed:Array Bool):World->Prop:=λw=>(listed.getD m false=true->D w)/\(listed.getD m false=false->C w)
section
variable {P:Program} {ops:Array Oper} {C D:World->Prop}
theorem ns {m:Nat}{listed:Array Bool}(h:listed.getD m false=true):oQ C D m listed=D:=funext λw=>propext ⟨λhh=>hh.1 h,λhh=>⟨λ_=>hh,λh'=>by rw[h]at h';cases h'⟩⟩
theorem nr {m:Nat}{listed:Array Bool}(h:listed.getD m false=false):oQ C D m listed=C:=funext λw=>propext ⟨λhh=>hh.2 h,λhh=>⟨λh'=>(by rw[h]at h';cases h'),λ_=>hh⟩⟩
theorem vR (uJ:∀w,C w->D w){m:Nat}{listed:Array Bool}{w:World}(h:oQ C D m listed w):D w:=by
 cases hm:listed.getD m false with
 | true=>exact h.1 hm
 | false=>exact uJ w (h.2 hm)
theorem xi (uJ:∀w,C w->D w){m i:Nat}{listed:Array Bool}{w:World}(h:oQ C D m listed w):oQ C D m (listed.setIfInBounds i true) w:=by
 cases hm:(listed.setIfInBounds i true).getD m false with
 | true=>rw[ns hm];exact vR uJ h
 | false =>
  rw[nr hm];refine h.2 ?_;cases hl:listed.getD m false with
  | false=>rfl
  | true=>rw[getD_set_true hl]at hm;cases hm
theorem UC {i:Nat}{o:Oper}{K:Act->World->Prop}{a:Act}{w:World}(hi:ops[i]?=some o)(hq:chain P o=false)(uJ:∀w,C w->D w)(h:bH P ops D i K a w):bH P ops C i K a w:=by
 cases hw:Region.wanted o (yielded ops a.tmps) with
 | false=>rw[dL hi hw]at h ⊢;exact h
 | true =>
  rw[bU hi hw hq]at h ⊢
  obtain⟨v,hv,hk⟩:=h;exact⟨v,λw' vD=>hv w' (uJ w' vD),hk⟩
theorem LO {i:Nat}{o:Oper}{K K':Act->World->Prop}{a:Act}{w:World}(hi:ops[i]?=some o)(hq:chain P o=false)(hk:∀a,K a w->K' a w)(h:bH P ops D i K a w):bH P ops D i K' a w:=by
 cases hw:Region.wanted o (yielded ops a.tmps) with
 | false=>rw[dL hi hw]at h ⊢;exact hk _ h
 | true =>
  rw[bU hi hw hq]at h ⊢
  obtain⟨v,hv,hh⟩:=h;exact⟨v,hv,hk _ hh⟩
theorem LR {i j:Nat}{oi oj:Oper}{K:Act->World->Prop}{a:Act}{w:World}(uJ:∀w,C w->D w)(hi:ops[i]?=some oi)(hj:ops[j]?=some oj)(uK:oi.apart ops oj=true)(EY:chain P oi=false)
  (hsi:∀cs b,oi.op≠.select cs b) (hsj:∀cs b,oj.op≠.select cs b) (h:bH P ops D i (bH P ops C j K) a w):bH P ops C j (bH P ops D i K) a w:=by
 obtain⟨h1,h2,h3⟩:=Oper.apart_spec uK;have ej:∀(b:Act) (v:Value),execOp (b.put oi.dst v).eval oj=execOp b.eval oj:=λb v=>execOp_put oj hsj b oi.dst v h1;have ei:∀(b:Act) (v:Value),execOp (b.put oj.dst v).eval oi=execOp b.eval oi:=λb v=>execOp_put oi hsi b oj.dst v h3;have wj:∀(b:Act) (v:Value),Region.wanted oj (yielded ops (b.put oi.dst v).tmps)=Region.wanted oj (yielded ops b.tmps):=λb v=>wanted_put oj b oi.dst v h1;have wi:∀(b:Act) (v:Value),Region.wanted oi (yielded ops (b.put oj.dst v).tmps)=Region.wanted oi (yielded ops b.tmps):=λb v=>wanted_put oi b oj.dst v h3;have cm:∀(b:Act) (v u:Value),(b.put oi.dst v).put oj.dst u=(b.put oj.dst u).put oi.dst v:=λb v u=>Act.put_comm b v u h2;cases gu:Region.wanted oi (yielded ops a.tmps) with
 | false =>
  rw[dL hi gu]at h;cases gF:Region.wanted oj (yielded ops a.tmps) with
  | false =>
   rw[dL hj (by rw[wj];exact gF)]at h;rw[dL hj gF,dL hi (by rw[wi];exact gu),<-cm];exact h
  | true =>
   cases rT:chain P oj with
   | true =>
    rw[eR hj (by rw[wj];exact gF) rT,ej]at h;rw[eR hj gF rT];refine kZ (λv w' _ hh=>?_) h;rw[dL hi (by rw[wi];exact gu),<-cm];exact hh
   | false =>
    rw[bU hj (by rw[wj];exact gF) rT,ej]at h;rw[bU hj gF rT];obtain⟨v,hv,hk⟩:=h;refine⟨v,hv,?_⟩;rw[dL hi (by rw[wi];exact gu),<-cm];exact hk
 | true =>
  rw[bU hi gu EY]at h;obtain⟨v,hv,hk⟩:=h;cases gF:Region.wanted oj (yielded ops a.tmps) with
  | false =>
   rw[dL hj (by rw[wj];exact gF)]at hk;rw[dL hj gF,bU hi (by rw[wi];exact gu) EY,ei];exact⟨v,hv,by rw[<-cm];exact hk⟩
  | true =>
   cases rT:chain P oj with
   | true =>
    rw[eR hj (by rw[wj];exact gF) rT,ej]at hk;rw[eR hj gF rT];refine kZ (λu w' _ hh=>?_) hk;rw[bU hi (by rw[wi];exact gu) EY,ei];exact⟨v,hv,by rw[<-cm];exact hh⟩
   | false =>
    rw[bU hj (by rw[wj];exact gF) rT,ej]at hk;rw[bU hj gF rT];obtain⟨u,hu,hk⟩:=hk;refine⟨u,hu,?_⟩;rw[bU hi (by rw[wi];exact gu) EY,ei];exact⟨v,hv,by rw[<-cm];exact hk⟩
def qY (P:Program)(ops:Array Oper)(C D:World->Prop)(m:Nat)(R:Act->World->Prop):Nat->Array Bool->Act->World->Prop
 | 0,listed,a,w=>Region.ready .any ops listed=[]/\R a w
 | n+1,listed,a,w=>(Region.ready .any ops listed=[]->R a w)/\∀i∈Region.ready .any ops listed,bH P ops (oQ C D m (listed.setIfInBounds i true)) i (qY P ops C D m R n (listed.setIfInBounds i true)) a w
theorem jS (uJ:∀w,C w->D w){m:Nat}{R:Act->World->Prop}{Q:Exit->Act->World->Prop}(hq:∀a w,R a w->Q .normal a w):∀(n:Nat) (listed:Array Bool) (a:Act) (w:World),oQ C D m listed w ->
  qY P ops C D m R n listed a w->wpAny P .any ops Q n listed a w
 | 0,listed,a,w,_,h=>⟨h.1,hq _ _ h.2⟩
 | fuel+1,listed,a,w,hC,h=>⟨λh0=>hq _ _ (h.1 h0),λi hi=>by
   have h1:=h.2 i hi;have uI:=xi uJ (i:=i) hC;unfold bH at h1;unfold wpOp;split
   ·rename_i ho;simp only[ho]at h1;exact jS uJ hq fuel _ _ _ uI h1
   rename_i o ho;simp only[ho]at h1;split
   ·rename_i hw;simp only[hw,if_true]at h1;refine .inl ?_;split at h1
    ·exact Oper.wp_mono (λa' w' hh=>jS uJ hq fuel _ _ _ hh.1 hh.2) (me h1)
    obtain⟨v,hv,hk⟩:=h1;unfold Oper.wp;rw[hv w uI];exact jS uJ hq fuel _ _ _ uI hk
   rename_i hw;simp only[hw]at h1;exact jS uJ hq fuel _ _ _ uI h1⟩
theorem qZ (uJ:∀w,C w->D w){m:Nat}{R:Act->World->Prop}{i:Nat}{oi:Oper}(fl:Bool)(hi:ops[i]?=some oi)(qD:∀(j:Nat) (o:Oper) cs b,ops[j]?=some o->o.op≠.select cs b) :
  ∀(fuel:Nat) (listed:Array Bool) (a:Act) (w:World),oQ C D m listed w->qk ops listed ->
   ((fl=true/\chain P oi=false/\i≠m)\/(fl=false/\(listed.getD m false=true\/(i≠m/\((Region.before ops).getD m 0).testBit i=true)))) ->
   (∀j oj,ops[j]?=some oj->j≠i->listed.getD j true=false->((Region.before ops).getD j 0).testBit i=false->oi.apart ops oj=true/\(chain P oi && chain P oj)=false) ->
   i∈Region.ready .any ops listed->bH P ops (if fl then D else oQ C D m (listed.setIfInBounds i true)) i (qY P ops C D m R fuel (listed.setIfInBounds i true)) a w->qY P ops C D m R (fuel+1) listed a w:=by
 have CG:∀listed:Array Bool,∀i∈Region.ready .any ops listed,i<listed.size/\listed.getD i false=false:=λlisted i hr=>by
  have h0:=(mem_ready.1 hr).1;rcases Nat.lt_or_ge i listed.size with h'|h'
  ·simp[h']at h0 ⊢;exact h0
  simp[h']at h0
 have hE:∀(listed:Array Bool) (w:World),oQ C D m listed w->(if fl then D else oQ C D m (listed.setIfInBounds i true)) w:=λlisted w h=>by
  cases fl with
  | true=>exact vR uJ h
  | false=>exact xi uJ h
 have Ae:∀(listed:Array Bool) (K:Act->World->Prop) (a:Act) (w:World),((fl=true/\chain P oi=false/\i≠m)\/(fl=false/\(listed.getD m false=true\/(i≠m/\((Region.before ops).getD m 0).testBit i=true)))) ->
   bH P ops (if fl then D else oQ C D m (listed.setIfInBounds i true)) i K a w->bH P ops (oQ C D m (listed.setIfInBounds i true)) i K a w:=λlisted K a w hc h=>by
  rcases hc with ⟨rfl,hq,_⟩|⟨rfl,_⟩
  ·exact UC hi hq (λw hw=>vR uJ hw) h
  exact h
 intro fuel;induction fuel with
 | zero =>
  intro listed a w hC hS yn _ hr H;refine⟨λh=>(by rw[h]at hr;cases hr),λj hj=>?_⟩;by_cases oA:j=i
  ·subst oA;exact Ae _ _ _ _ yn H
  have:=ready_mono hj oA;obtain⟨_,_,_,hh⟩:=qK (hE _ _ hC) H;rw[hh.1]at this;cases this
 | succ fuel ih =>
  intro listed a w hC hS yn mG hr H;refine⟨λh=>(by rw[h]at hr;cases hr),λj hj=>?_⟩;by_cases oA:j=i
  ·subst oA;exact Ae _ _ _ _ yn H
  obtain⟨vv,oj,rX,cg⟩:=mem_ready.1 hj;obtain⟨aQd,Hr⟩:=CG listed i hr;have aHo:=(CG listed j hj).1;have CA:((Region.before ops).getD j 0).testBit i=false:=by
   cases hb:((Region.before ops).getD j 0).testBit i with
   | false=>rfl
   | true=>have:=hS.before j i oj rX cg hb;rw[Hr]at this;cases this
  obtain⟨uK,VZ⟩:=mG j oj rX oA vv CA;have h1:bH P ops (if fl then D else oQ C D m (listed.setIfInBounds i true)) i (bH P ops (oQ C D m ((listed.setIfInBounds i true).setIfInBounds j true)) j (qY P ops C D m R fuel ((listed.setIfInBounds i true).setIfInBounds j true))) a w :=
   cE (hE _ _ hC) (λa' w' _ hh=>hh.2 j (ready_mono hj oA)) H
  have key:bH P ops (oQ C D m (listed.setIfInBounds j true)) j (bH P ops (if fl then D else oQ C D m ((listed.setIfInBounds j true).setIfInBounds i true)) i (qY P ops C D m R fuel ((listed.setIfInBounds i true).setIfInBounds j true))) a w /\
    ((fl=true/\chain P oi=false/\i≠m)\/(fl=false/\((listed.setIfInBounds j true).getD m false=true\/(i≠m/\((Region.before ops).getD m 0).testBit i=true)))):=by
   rcases yn with ⟨rfl,hq,him⟩|⟨rfl,yn⟩
   ·refine⟨?_,.inl ⟨rfl,hq,him⟩⟩;have e:oQ C D m ((listed.setIfInBounds i true).setIfInBounds j true)=oQ C D m (listed.setIfInBounds j true):=by
     rw[Array.setIfInBounds_comm _ _ (Ne.symm oA)];unfold oQ;rw[getD_set_ne false him]
    rw[e]at h1;exact LR (λw hw=>vR uJ hw) hi rX uK hq (λcs b=>qD i oi cs b hi) (λcs b=>qD j oj cs b rX) h1
   simp only[Bool.false_eq_true,if_false]at h1;cases hm:listed.getD m false with
   | true =>
    have e1:∀k,(listed.setIfInBounds k true).getD m false=true:=λk=>getD_set_true hm;have e2:∀k k',((listed.setIfInBounds k true).setIfInBounds k' true).getD m false=true:=λk k'=>getD_set_true (e1 k);rw[ns (e1 i),ns (e2 i j)]at h1;refine⟨?_,.inr ⟨rfl,.inl (e1 j)⟩⟩;simp only[Bool.false_eq_true,if_false];rw[ns (e1 j),ns (e2 j i)];exact nR hi rX uK VZ (λcs b=>qD i oi cs b hi) (λcs b=>qD j oj cs b rX) h1
   | false =>
    have oW:=yn.resolve_left (by rw[hm];simp);have Ht:j≠m:=λe=>by subst e;rw[CA]at oW;simp at oW
    have ei:(listed.setIfInBounds i true).getD m false=false:=by rw[getD_set_ne false oW.1];exact hm
    have ej:(listed.setIfInBounds j true).getD m false=false:=by rw[getD_set_ne false Ht];exact hm
    have eji:((listed.setIfInBounds j true).setIfInBounds i true).getD m false=false:=by rw[getD_set_ne false oW.1];exact ej
    have eij:((listed.setIfInBounds i true).setIfInBounds j true).getD m false=false:=by rw[getD_set_ne false Ht];exact ei
    rw[nr ei,nr eij]at h1;refine⟨?_,.inr ⟨rfl,.inr oW⟩⟩;simp only[Bool.false_eq_true,if_false];rw[nr ej,nr eji];exact nR hi rX uK VZ (λcs b=>qD i oi cs b hi) (λcs b=>qD j oj cs b rX) h1
  obtain⟨h2,tJ⟩:=key;refine cE (xi uJ hC) (λa' w' uI h3=>ih (listed.setIfInBounds j true) a' w' uI (hS.set hj) tJ ?_ (ready_mono hr (Ne.symm oA)) ?_) h2
  ·intro k ok hk Ke Ym ep;refine mG k ok hk Ke ?_ ep;by_cases Nu:j=k
   ·subst Nu;exact vv
   rw[getD_set_ne true Nu]at Ym;exact Ym
  rw[show (listed.setIfInBounds i true).setIfInBounds j true=(listed.setIfInBounds j true).setIfInBounds i true from Array.setIfInBounds_comm _ _ (Ne.symm oA)]at h3
  exact h3
def Lc (P:Program)(ops:Array Oper)(bf:Array Nat):List Nat->Array Bool->Bool
 | [],listed=>(Region.ready .any ops listed).isEmpty
 | k::r,listed=>(Region.ready .any ops listed).contains k && mY P ops bf listed k && Lc P ops bf r (listed.setIfInBounds k true)
def aAe (P:Program):Option Oper->Bool
 | some o=>!chain P o
 | none=>false
def Zx (P:Program)(ops:Array Oper)(bf:Array Nat)(m:Nat)(post:List Nat):List (Nat×Bool)->Array Bool->Bool
 | [],listed=>(Region.ready .any ops listed).contains m && (Region.ready .any ops listed).all (· == m) && Lc P ops bf post (listed.setIfInBounds m true)
 | (k,fl)::r,listed=>(Region.ready .any ops listed).contains k && (k != m) && mY P ops bf listed k && (if fl then aAe P ops[k]? else (bf.getD m 0).testBit k) && Zx P ops bf m post r (listed.setIfInBounds k true)
def Zk (P:Program)(ops:Array Oper)(pre:List (Nat×Bool))(m:Nat)(post:List Nat):Bool:=Region.noSelect ops && (pre.length+(post.length+1) == ops.size) && Zx P ops (Region.before ops) m post pre (Array.replicate ops.size false)
def Av (P:Program)(ops:Array Oper)(D:World->Prop)(R:Act->World->Prop):List Nat->Act->World->Prop
 | [],a,w=>R a w
 | k::r,a,w=>bH P ops D k (Av P ops D R r) a w
def Dl (P:Program)(ops:Array Oper)(C D:World->Prop)(R:Act->World->Prop)(m:Nat)(post:List Nat):List (Nat×Bool)->Act->World->Prop
 | [],a,w=>bH P ops D m (Av P ops D R post) a w
 | (k,fl)::r,a,w=>bH P ops (if fl then D else C) k (Dl P ops C D R m post r) a w
theorem zp (uJ:∀w,C w->D w){m:Nat}{R:Act->World->Prop}(hs:Region.noSelect ops=true):∀(post:List Nat) (listed:Array Bool) (a:Act) (w:World),D w->listed.getD m false=true->qk ops listed ->
  Lc P ops (Region.before ops) post listed=true->Av P ops D R post a w->qY P ops C D m R post.length listed a w
 | [],listed,a,w,_,_,_,hB,h=>⟨by simpa[Lc] using hB,h⟩
 | k::r,listed,a,w,hD,hm,hS,hB,h=>by
  simp only[Lc,Bool.and_eq_true]at hB;obtain⟨⟨hr,hf⟩,nz⟩:=hB;have jh:k∈Region.ready .any ops listed:=by simpa using hr
  obtain⟨_,ok,bI,_⟩:=mem_ready.1 jh;refine qZ uJ (i:=k) (oi:=ok) false bI (Region.noSelect_spec hs) r.length listed a w (by rw[ns hm];exact hD) hS (.inr ⟨rfl,.inl hm⟩) (fh bI hf) jh ?_;simp only[Bool.false_eq_true,if_false];rw[ns (getD_set_true hm)];exact cE hD (λa' w' hD' hh=>zp uJ hs r _ a' w' hD' (getD_set_true hm) (hS.set jh) nz hh) h
theorem uy (uJ:∀w,C w->D w){m:Nat}{post:List Nat}{R:Act->World->Prop}(hs:Region.noSelect ops=true):∀(pre:List (Nat×Bool)) (listed:Array Bool) (a:Act) (w:World),C w->listed.getD m false=false->qk ops listed ->
  Zx P ops (Region.before ops) m post pre listed=true->Dl P ops C D R m post pre a w->qY P ops C D m R (pre.length+(post.length+1)) listed a w
 | [],listed,a,w,hC,hm,hS,hB,h=>by
  simp only[Zx,Bool.and_eq_true,List.all_eq_true,beq_iff_eq]at hB;obtain⟨⟨hr,cg⟩,nz⟩:=hB;have jh:m∈Region.ready .any ops listed:=by simpa using hr
  have ED:m<listed.size:=by
   have h0:=(mem_ready.1 jh).1;rcases Nat.lt_or_ge m listed.size with h'|h'
   ·exact h'
   simp[h']at h0
  have em:(listed.setIfInBounds m true).getD m false=true:=by simp[ED]
  rw[List.length_nil,Nat.zero_add];refine⟨λh0=>(by rw[h0]at jh;cases jh),λi hi=>?_⟩;rw[cg i hi];rw[ns em];exact cE (uJ w hC) (λa' w' hD' hh=>zp uJ hs post _ a' w' hD' em (hS.set jh) nz hh) h
 | (k,fl)::r,listed,a,w,hC,hm,hS,hB,h=>by
  simp only[Zx,Bool.and_eq_true,bne_iff_ne,ne_eq]at hB;obtain⟨⟨⟨⟨hr,vB⟩,hf⟩,bm⟩,nz⟩:=hB;have jh:k∈Region.ready .any ops listed:=by simpa using hr
  obtain⟨_,ok,bI,_⟩:=mem_ready.1 jh;have em:(listed.setIfInBounds k true).getD m false=false:=by rw[getD_set_ne false vB];exact hm
  rw[List.length_cons,Nat.add_right_comm];have jE:oQ C D m listed w:=by rw[nr hm];exact hC
  cases fl with
  | true =>
   simp only[if_true]at bm;rw[bI]at bm;have hq:chain P ok=false:=by simpa[aAe] using bm
   refine qZ uJ (i:=k) (oi:=ok) true bI (Region.noSelect_spec hs) _ listed a w jE hS (.inl ⟨rfl,hq,vB⟩) (fh bI hf) jh ?_;simp only[if_true];have h:bH P ops D k (Dl P ops C D R m post r) a w:=h;exact LO bI hq (λa' hh=>uy uJ hs r _ a' w hC em (hS.set jh) nz hh) h
  | false =>
   simp only[Bool.false_eq_true,if_false]at bm;refine qZ uJ (i:=k) (oi:=ok) false bI (Region.noSelect_spec hs) _ listed a w jE hS (.inr ⟨rfl,.inr ⟨vB,bm⟩⟩) (fh bI hf) jh ?_;simp only[Bool.false_eq_true,if_false];rw[nr em];have h:bH P ops C k (Dl P ops C D R m post r) a w:=h;exact cE hC (λa' w' uI hh=>uy uJ hs r _ a' w' uI em (hS.set jh) nz hh) h
end
section
variable {P:Program}
def oK (P:Program)(ops:List Oper)(D:World->Prop)(R:Fr->World->Prop):(l:List Nat)->Fr->World->Ph (ops,D,R,l)->Prop
 | [],t,w,_=>R t w
 | k::r,t,w,_=>iR P ops D ops[k]? (λt w=>oK P ops D R r t w .mk) t w .mk
def og (P:Program)(ops:List Oper)(C D:World->Prop)(R:Fr->World->Prop)(m:Nat)(post:List Nat):(l:List (Nat×Bool))->Fr->World->Ph (ops,C,D,R,m,post,l)->Prop
 | [],t,w,_=>iR P ops D ops[m]? (λt w=>oK P ops D R post t w .mk) t w .mk
 | (k,true)::r,t,w,_=>iR P ops D ops[k]? (λt w=>og P ops C D R m post r t w .mk) t w .mk
 | (k,false)::r,t,w,_=>iR P ops C ops[k]? (λt w=>og P ops C D R m post r t w .mk) t w .mk
theorem Dk {ops:List Oper}{D:World->Prop}{R:Fr->World->Prop}{N:Act->World->Prop}(hn:∀t w,R t w->N ⟨t.toArray,[]⟩ w):∀(l:List Nat) (t:Fr) (w:World),oK P ops D R l t w .mk->Av P ops.toArray D N l ⟨t.toArray,[]⟩ w
 | [],t,w,h=>hn t w h
 | k::r,t,w,h=>dh (λt w=>Dk hn r t w) h
theorem y9 {ops:List Oper}{C D:World->Prop}{R:Fr->World->Prop}{N:Act->World->Prop}{m:Nat}{post:List Nat}(hn:∀t w,R t w->N ⟨t.toArray,[]⟩ w):∀(l:List (Nat×Bool)) (t:Fr) (w:World),og P ops C D R m post l t w .mk->Dl P ops.toArray C D N m post l ⟨t.toArray,[]⟩ w
 | [],t,w,h=>dh (λt w=>Dk hn post t w) h
 | (k,true)::r,t,w,h=>dh (λt w=>y9 hn r t w) h
 | (k,false)::r,t,w,h=>dh (λt w=>y9 hn r t w) h
theorem aA9 {id:Nat}{l:List Oper}{t:Fr}{w:World}{Q:EP}{p}(pre:List (Nat×Bool))(m:Nat)(post:List Nat)(C D:World->Prop)(hm:P.follows .mixedOrders=true)(hB:Zk P l.toArray pre m post=true)(uJ:∀w,C w->D w)(hC:C w.drew)
  (h:og P l C D (Q .normal) m post pre t w.drew .mk):dN P (.region id l.toArray true) Q t w p:=by
 unfold dN;simp only[Zk,Bool.and_eq_true,beq_iff_eq]at hB;refine wp_region_any hm ?_;have hG:qY P l.toArray C D m (λa w=>lift Q .normal a w) (pre.length+(post.length+1)) (Array.replicate l.toArray.size false) ⟨t.toArray,[]⟩ w.drew:=by
  refine uy uJ hB.1.1 pre _ _ _ hC (by rw[Array.getD_eq_getD_getElem?,Array.getElem?_replicate];split<;>rfl) (λj o _ hl=>by simp[Array.getElem?_replicate]at hl;split at hl<;>simp at hl) hB.2 ?_;exact y9 (P:=P) (R:=Q .normal) (N:=λa w=>lift Q .normal a w) (λt w hk=>⟨rfl,by simpa using hk⟩) pre t w.drew h
 rw[hB.1.2]at hG;exact jS uJ (R:=λa w=>lift Q .normal a w) (Q:=λe a w=>lift Q e a w) (λ_ _ h=>h) _ _ _ _ (by rw[nr (by rw[Array.getD_eq_getD_getElem?,Array.getElem?_replicate];split<;>rfl)];exact hC) hG
variable {t:Fr} {w:World} {C D:World->Prop} {R:Fr->World->Prop}
theorem M5 (ops)(p):oK P ops D R [] t w p=R t w:=(rfl)
theorem JE (ops k r)(p):oK P ops D R (k::r) t w p=iR P ops D ops[k]? (λt w=>oK P ops D R r t w .mk) t w .mk:=(rfl)
theorem PQ (ops m post)(p):og P ops C D R m post [] t w p=iR P ops D ops[m]? (λt w=>oK P ops D R post t w .mk) t w .mk:=(rfl)
theorem M7 (ops m post k r)(p):og P ops C D R m post ((k,true)::r) t w p=iR P ops D ops[k]? (λt w=>og P ops C D R m post r t w .mk) t w .mk:=(rfl)
theorem JF (ops m post k r)(p):og P ops C D R m post ((k,false)::r) t w p=iR P ops C ops[k]? (λt w=>og P ops C D R m post r t w .mk) t w .mk:=(rfl)
end
attribute [push_cast] M5 JE PQ M7 JF
attribute [irreducible] oK og
theorem Own.aOd {α:Type}{base k:Nat}{e:TypeId}{enc:α->List Value}{w:World}{b o n c:Nat}{l:List α}(h:Vc.Own base e k enc w (.slice (some ⟨b,o,none⟩) n c) l):o=0:=by
 rcases h.1.2 with ⟨he,_⟩|⟨g,cap,cr,he,_⟩
 ·cases he
 cases he;rfl
section
variable {P:Program} {t:Fr} {w:World} {C:World->Prop} {K:VK}
theorem Z1 (d)(args:List Operand)(nf ty pos af g)(p):eG P ⟨d,.call { callee:=.builtin .max,args:=args.toArray,argTypes:=nf },ty,pos,af,g⟩ t w C K p =
  mmK true (args.map (ev t)) (K · w) False .mk:=rfl
theorem Z2 (d)(args:List Operand)(nf ty pos af g)(p):eG P ⟨d,.call { callee:=.builtin .min,args:=args.toArray,argTypes:=nf },ty,pos,af,g⟩ t w C K p =
  mmK false (args.map (ev t)) (K · w) False .mk:=rfl
end
attribute [push_cast] Z1 Z2
theorem dB {P:Program}{f:FuncId}{fn:Func}{args:List Value}{w:World}{R:VK}(hf:P.funcs[f]?=some fn)(hb:fn.body.isNone=false)(hn:(fn.name == "runtime.NumGoroutine")=false)
  (h:Calls P f args.toArray w λe w'=>∃v,e=.returned v/\R v w'):aw P f args w R:=⟨cC hf hb hn,h⟩
theorem Zm {α:Type}{w:World}{e:TypeId}{k g G:Nat}{enc:α->List Value}{cur:Array Value}(hk:∀x,(enc x).length=k)(hb:w.heap[g]?=some (.cells cur e (0,0)))(hG:G<=maxLen)(hs:cur.size=G*k):Vc.Own g e k enc w (.slice (some ⟨g,0,none⟩) 0 G) ([]:List α) :=
 ⟨⟨by simp,.inr ⟨g,G,cur,rfl,Nat.le_refl _,hb,Nat.zero_le _,hG,hs,by simp⟩⟩,hk⟩
theorem Gf {P:Program}{f:FuncId}{args:List Value}{w:World}{R:VK}(h:aw P f args w R):Calls P f args.toArray w λe w'=>∃v,e=.returned v/\R v w':=h.2
end Go.Vc
namespace Go.RowKit
theorem Below.tr {a b c:World}(h:Below a.heap.size a b)(k:Below b.heap.size b c):Below a.heap.size a c:=h.trans (k.mono h.size)
end Go.RowKit
namespace Cae
def SJ (n:Nat):UInt8:=if n<10 then UInt8.ofNat (48+n) else UInt8.ofNat (87+n)
def rU:Nat->Nat->List UInt8->List UInt8
 | 0,n,acc=>SJ n::acc
 | f+1,n,acc=>if n<16 then SJ n::acc else rU f (n / 16) (SJ (n % 16)::acc)
def iJ (n:Nat):List UInt8:=rU 8 n []
theorem K3:∀(f n:Nat) (acc:List UInt8),(rU f n acc).length<=f+1+acc.length
 | 0,n,acc=>by rw[rU];simp;omega
 | f+1,n,acc=>by
  rw[rU];split
  ·simp;omega
  have:=K3 f (n / 16) (SJ (n % 16)::acc);rw[List.length_cons]at this;omega
theorem vt (n:Nat):(iJ n).length<=9:=K3 8 n []
end Cae
namespace Go.Vc
open Go.RowKit
theorem aEl {α:Type}{f:α->Value}{w:World}{b c j n:Nat}{e:TypeId}{l:List α}{cs:List Value}(hB:aN w b e cs)(hd:cs.drop j=l.map f)(hn:n=l.length)(hc:l.length<=c):Sl (λ_=>False) 1 (En (λx=>[f x])) w (.slice (some ⟨b,j,none⟩) n c) l:=by
 subst hn;refine⟨_,_,rfl,hc,λi x hx=>⟨b,j,[f x],rfl,id,rfl,λk u hu=>?_,rfl⟩⟩;cases k with
 | zero =>
  simp at hu;subst hu;rw[Nat.mul_one,Nat.add_zero];refine hB.cell ?_;have h1:(cs.drop j)[i]?=some (f x):=by rw[hd,List.getElem?_map,hx];rfl
  rwa [List.getElem?_drop]at h1
 | succ k=>simp at hu
end Go.Vc
namespace Go.Proofs.YtemjejfpadnljaaGreatDoor
open Go.Vc Go.Proofs Go.RowKit
def aX (k:Nat):List Value:=[.int .i64 k]
end Go.Proofs.YtemjejfpadnljaaGreatDoor
namespace Go.Vc
section
def encS (b:List UInt8):List Value:=[str b]
end
section
open Go.RowKit
theorem Sl.strs {X:Nat->Prop}{w:World}{v:Value}{x:List UInt8}{l:List (List UInt8)}(h:Sl X 1 (En Vc.encS) w v (x::l)):∃b o c,v=.slice (some ⟨b,o,none⟩) (x::l).length c/\(x::l).length<=c/\b<w.heap.size/\∀(j:Nat) y,((x::l).map λt:List UInt8=>(⟨t.toArray⟩:ByteArray))[j]?=some y->w.cell? ⟨b,o+j,none⟩=some (.string y):=by
 obtain⟨a,c,rfl,hc,tf⟩:=h;have h0:=tf 0 x rfl;obtain⟨b,o,cs,rfl,hb,il,aM,hr⟩:=h0;have cg:∀(j:Nat) y,((x::l).map λt:List UInt8=>(⟨t.toArray⟩:ByteArray))[j]?=some y->w.cell? ⟨b,o+j,none⟩=some (.string y):=by
  intro j y hy;rw[List.getElem?_map]at hy;cases hx:(x::l)[j]? with
  | none=>rw[hx]at hy;cases hy
  | some t =>
   rw[hx]at hy;cases hy;have h1:=tf j t hx;obtain⟨b1,o1,cs1,he,gS,aVZ,aHa,x9⟩:=h1;cases he
   have:=aHa 0 (str t) (by rw[x9];rfl);rwa [Nat.mul_one,Nat.add_zero]at this
 exact⟨b,o,c,rfl,hc,World.block_lt_of_cell? w _ (cg 0 _ rfl),cg⟩
end
end Go.Vc
namespace Go.Proofs.YtemjejfpadnljaaGreatDoor
open Go.Vc Go.Proofs Go.RowKit Cae
attribute [local irreducible] dN ae ak aY runK aw Sl Vc.Own vc aV cJ a7
def Db (w:World):Prop:=w.cell? ⟨9,15,none⟩=some (.int .u8 4)
theorem Db.below {w w':World}{B:Nat}(h:Db w)(hb:Below B w w')(hB:9<B):Db w':=(hb.cell hB).trans h
theorem Db.lt {w:World}(h:Db w):9<w.heap.size:=World.block_lt_of_cell? w _ h
theorem Ga {x y:Nat}(hx:x<18446744073709551616)(hy:y<18446744073709551616):cR .and .u64 x y=((x &&& y:Nat):Int):=by
 simp only[cR,mm,BitVec.toNat_and,BitVec.toNat_ofNat];rw[Nat.mod_eq_of_lt (show x<2 ^ IntKind.u64.bits by show x<2 ^ 64;omega),Nat.mod_eq_of_lt (show y<2 ^ IntKind.u64.bits by show y<2 ^ 64;omega),fo,Nat.mod_eq_of_lt (NF (n:=64) hx)]
theorem XV:∀d:Nat,d<16->([48,49,50,51,52,53,54,55,56,57,97,98,99,100,101,102,103,104,105,106,107,108,109,110,111,112,113,114,115,116,117,118,119,120,121,122]:List UInt8).getD d 0=SJ d:=by decide
theorem aIz (w:World):aw Tryz.prog 231 [.int .i64 16] w λr w'=>r=.bool true/\w'=w:=by
 refine aD Tryz.func231 rfl (by kernel_rfl) [2] rfl ?_;push_cast -dsimp(maxSteps:=9^7) [Tryz.ntmps231];have e1:cR .and .i64 16 15=0:=by decide +kernel
 rw[e1];rfl
theorem aI7 (w:World)(h:Db w):aw Tryz.prog 234 [.int .u64 16] w λr w'=>r=.int .i64 4/\w'=w:=by
 refine aD Tryz.func234 rfl (by kernel_rfl) [2] rfl ?_;push_cast -dsimp(maxSteps:=9^7) [Tryz.ntmps234];push_cast -dsimp;have e1:(IntKind.u64.wrap (cR .and .u64 16 (IntKind.u64.wrap (-16))*285870213051353865)).fdiv (2 ^ min 58 IntKind.u64.bits)=15:=by decide +kernel
 rw[e1];have h':w.cell? ⟨9,15,none⟩=some (.int .u8 4):=h;push_cast -dsimp[h'];rfl
theorem aRL (w:World)(h:Db w):aw Tryz.prog 232 [.int .u64 16] w λr w'=>r=.int .i64 4/\w'=w:=by
 refine aD Tryz.func232 rfl (by kernel_rfl) [2] rfl ?_;push_cast -dsimp(maxSteps:=9^7) [Tryz.ntmps232];refine aA (aI7 w h) ?_;rintro _ w1 ⟨rfl,rfl⟩;push_cast -dsimp
theorem Us {P:Program}{xt:TypeId}{n s:Nat}{e:TypeId}{E:Option (TypeId×Nat)}{a:Addr}{j:Nat}{L:VP}{o:Oper}{t:Fr}{w:World}{K:VK}{Q:EP}{p}(hu:P.underlying xt=some (.array n e))(hn:P.arrayLen xt=n)(he:P.elem xt=e)
  (hs:(sizeOf e).run P w=.ok s w) (ho:execOp (ev t) o=(do pure (.value (<-Instr.sliceAt xt (.pointer (some a)) (some (.int .i64 (j:Int))) none none)))) (hj:j<n)
  (k:K (.slice (some (a.add (j*s))) (n-j) (n-j)) w):gA (P.underlying xt) E (.pointer (some a)) (some (.int .i64 (j:Int))) none none L (runK P o t w K Q .mk) p:=by
 rw[hu]
 show runK P o t w K Q .mk
 refine gQ ho (fN ?_ k);rw[run_sliceAt_array_l w xt a (by rw[hu,hn,he]) .i64 (j:Int) (by omega) (by rw[hn];omega),he,hs];rw[hn];unfold slicedAt;rw[Int.toNat_natCast]
 show Result.ok (Value.slice (some (if n=j then a else a.add (j*s))) (n-j) (n-j)) w=_
 rw[if_neg (by omega)]
theorem Hb (n:Nat)(hn:n<4294967296)(w:World)(h:Db w) :
  aw Tryz.prog 228 [.slice none 0 0,.int .u64 (n:Int),.int .i64 16,.bool false,.bool false] w λr w'=>r=.tuple #[.slice none 0 0,str (iJ n)]/\Below w.heap.size w w':=by
 refine aD Tryz.func228 rfl (by kernel_rfl) [10,11] rfl ?_;push_cast -dsimp(maxSteps:=9^7) [Tryz.ntmps228];push_cast -dsimp;refine ah (z:=List.replicate 65 (.int .u8 0)) (by kernel_rfl) ?_;intro w1 aU;have qw:=aU.size;have gS:=aU.below;push_cast -dsimp;refine aA (aIz w1) ?_;rintro _ w2 ⟨rfl,rfl⟩;push_cast -dsimp;have e4:IntKind.u64.wrap 4=4:=by decide
 have e16:IntKind.u64.wrap 16=16:=by decide
 have e15:IntKind.u64.wrap (16-1)=15:=by decide
 refine aA (aRL w2 (h.below gS h.lt)) ?_;rintro _ w3 ⟨rfl,rfl⟩;push_cast -dsimp[e4,e16,e15];refine aK [1,13,44,45,46,47,48,49,50,51,52,53,54,55,56,57] (λz wx=>∃(f m i:Nat) (acc:List UInt8) (cs:List Value),z 1=.int .u64 (m:Int)/\z 13=.int .i64 (i:Int)/\i=57+f/\f<=8/\m<16 ^ (f+1)/\rU f m acc=iJ n/\cs.length=65/\cs.drop i=acc.map (λb=>.int .u8 (b.toNat:Int))/\aN wx w.heap.size 306 cs/\Below w.heap.size w wx) (λz _=>(intOf (z 13)).toNat) ?_ ?_
 ·refine⟨8,n,65,[],_,rfl,rfl,rfl,Nat.le_refl _,by omega,rfl,List.length_replicate ..,?_,aU.aL,gS⟩;rfl
 intro z wx hI;obtain⟨f,m,i,acc,cs,h1,Hc,hif,hf,hm,hh,jE,hcd,hB,bS⟩:=hI;have A5:=bS.size;have aQx:m<18446744073709551616:=Nat.lt_of_lt_of_le hm (Nat.le_trans (Nat.pow_le_pow_right (by omega) (show f+1<=9 by omega)) (by decide))
 have Vb:∃d,m % 16=d:=⟨_,rfl⟩;obtain⟨d,hd⟩:=Vb;have aPJ:d<16:=by omega
 have ea:cR .and .u64 (m:Int) (IntKind.u64.wrap 15)=(d:Int):=by
  rw[show IntKind.u64.wrap 15=((2 ^ 4-1:Nat):Int) from rfl,Ga aQx (by omega),mz,<-hd]
 have hq:∃q,m / 16=q:=⟨_,rfl⟩;obtain⟨q,hq⟩:=hq;have es:(m:Int).fdiv (2 ^ min 4 IntKind.u64.bits)=(q:Int):=by
  rw[<-hq];exact As (b:=4) (k:=4) rfl (by decide)
 have QR:∃j,i=j+1:=⟨i-1,by omega⟩;obtain⟨j,rfl⟩:=QR;have ej:((j:Nat):Int)+1-1=(j:Int):=by omega
 push_cast -dsimp[h1,Hc,ea,es,ej];refine⟨λeo=>?_,λaq=>?_⟩
 ·refine⟨⟨by omega,by omega⟩,⟨by omega,by omega⟩,⟨by omega,by omega⟩,?_⟩;rw[XV d aPJ];refine aC hB (by omega) rfl ?_;intro w5 cG;have PC:w5.heap.size=wx.heap.size:=cG.size;push_cast -dsimp[es];cases f with
  | zero=>exact absurd hm (by omega)
  | succ f =>
   rw[rU,if_neg (by omega),hq,hd]at hh;refine⟨⟨f,q,j,SJ d::acc,_,rfl,rfl,by omega,by omega,?_,hh,by rw[List.length_set];exact jE,?_,cG.aL,bS.trans (cG.kept.below A5 (λg hg=>Nat.le_of_eq (Eq.symm hg)))⟩,by rw[Hc];simp only[intOf];omega⟩
   ·rw[<-hq];refine Nat.div_lt_of_lt_mul ?_;rw[Nat.mul_comm,<-Nat.pow_succ];exact hm
   rw[List.drop_set,if_neg (by omega),Nat.sub_self,List.drop_eq_getElem_cons (by omega),List.set_cons_zero,hcd,List.map_cons]
 have FY:SJ m::acc=iJ n:=by
  rw[<-hh];cases f with
  | zero=>rfl
  | succ f=>rw[rU,if_pos (by omega)]
 have aQw:m<16:=by omega
 refine⟨⟨by omega,by omega⟩,⟨by omega,by omega⟩,⟨by omega,by omega⟩,?_⟩;rw[XV m aQw];refine aC hB (by omega) rfl ?_;intro w5 cG;have PC:w5.heap.size=wx.heap.size:=cG.size;push_cast -dsimp;refine Us (n:=65) (s:=1) (e:=5) (by kernel_rfl) (by kernel_rfl) (by kernel_rfl) (by rfl) rfl (by omega) ?_;push_cast -dsimp;have oY:Sl (λ_=>False) 1 (En je) w5 (.slice (some ⟨w.heap.size,j,none⟩) (65-j) (65-j)) (SJ m::acc):=by
  refine aEl (f:=λb:UInt8=>.int .u8 (b.toNat:Int)) cG.aL ?_ ?_ ?_
  ·rw[List.drop_set,if_neg (by omega),Nat.sub_self,List.drop_eq_getElem_cons (by omega),List.set_cons_zero,hcd,List.map_cons]
  ·have:=congrArg List.length hcd;rw[List.length_drop,List.length_map,jE]at this;rw[List.length_cons];omega
  have:=congrArg List.length hcd;rw[List.length_drop,List.length_map,jE]at this;rw[List.length_cons];omega
 refine aIL (e:=5) (by kernel_rfl) (by kernel_rfl) (by kernel_rfl) oY ?_;push_cast -dsimp;rw[FY];exact⟨rfl,bS.trans (cG.kept.below A5 (λg hg=>Nat.le_of_eq (Eq.symm hg)))⟩
theorem Xk (n:Nat)(hn:n<4294967296)(w:World)(h:Db w):aw Tryz.prog 221 [.int .i64 (n:Int),.int .i64 16] w λr w'=>r=str (iJ n)/\Below w.heap.size w w':=by
 refine aD Tryz.func221 rfl (by kernel_rfl) [4] rfl ?_;push_cast -dsimp(maxSteps:=9^7) [Tryz.ntmps221];have e1:IntKind.u64.wrap (n:Int)=(n:Int):=by rw[fo,Nat.mod_eq_of_lt (by omega)]
 have e2:decide ((n:Int)<0)=false:=decide_eq_false (by omega);push_cast -dsimp[e1,e2];refine aA (Hb n hn w h) ?_;rintro _ w1 ⟨rfl,hb⟩;push_cast -dsimp;exact hb
theorem aGv (n:Nat)(hn:n<4294967296)(w:World)(h:Db w):aw Tryz.prog 209 [.int .i64 (n:Int),.int .i64 16] w λr w'=>r=str (iJ n)/\Below w.heap.size w w':=by
 refine aD Tryz.func209 rfl (by kernel_rfl) [4] rfl ?_;push_cast -dsimp(maxSteps:=9^7) [Tryz.ntmps209];refine aA (Xk n hn w h) ?_;rintro _ w1 ⟨rfl,hb⟩;push_cast -dsimp;exact hb
theorem aFt (n:Nat)(hn:n<4294967296)(w:World)(h:Db w):aw Tryz.prog 187 [.int .i64 (n:Int)] w λr w'=>r=str (iJ n)/\Below w.heap.size w w':=by
 refine aD Tryz.func187 rfl (by kernel_rfl) [2] rfl ?_;push_cast -dsimp(maxSteps:=9^7) [Tryz.ntmps187];refine aA (aGv n hn w h) ?_;rintro _ w1 ⟨rfl,hb⟩;push_cast -dsimp;exact hb
def Fg:Go.Shelf.Ren:=⟨λ| 156=>21|165=>37|166=>38|169=>39|240=>61|241=>62|276=>101|277=>102|n=>n,λ| 31=>56|9=>9|3=>3|4=>4|0=>0|20=>20|72=>90|76=>92|70=>87|37=>88|75=>34|127=>150|164=>192|5=>5|80=>94|n=>n,λ| n=>n⟩
theorem aFH:Go.Proofs.Lays.n156 Tryz.prog Fg:={
 mixed:=by kernel_rfl
 f156:=Tryz.func21.trans (congrArg some (by kernel_rfl))
 f165:=Tryz.func37.trans (congrArg some (by kernel_rfl))
 f166:=Tryz.func38.trans (congrArg some (by kernel_rfl))
 f169:=Tryz.func39.trans (congrArg some (by kernel_rfl))
 f240:=Tryz.func61.trans (congrArg some (by kernel_rfl))
 f241:=Tryz.func62.trans (congrArg some (by kernel_rfl))
 f276:=Tryz.func101.trans (congrArg some (by kernel_rfl))
 f277:=Tryz.func102.trans (congrArg some (by kernel_rfl))
 t0:=Tryz.underlying0
 a0:=Tryz.isAgg0
 z0:=Tryz.sizeOf0
 v0:=Tryz.zeroValue0
 t3:=Tryz.underlying3
 a3:=Tryz.isAgg3
 z3:=Tryz.sizeOf3
 v3:=Tryz.zeroValue3
 t4:=Tryz.underlying4
 a4:=Tryz.isAgg4
 z4:=Tryz.sizeOf4
 v4:=Tryz.zeroValue4
 t9:=Tryz.underlying9
 a9:=Tryz.isAgg9
 z9:=Tryz.sizeOf9
 v9:=Tryz.zeroValue9
 t20:=Tryz.underlying20
 a20:=Tryz.isAgg20
 z20:=Tryz.sizeOf20
 v20:=Tryz.zeroValue20
 t31:=Tryz.underlying56
 a31:=Tryz.isAgg56
 z31:=Tryz.sizeOf56
 v31:=Tryz.zeroValue56
 t37:=Tryz.underlying88
 a37:=Tryz.isAgg88
 z37:=Tryz.sizeOf88
 v37:=Tryz.zeroValue88
 t70:=Tryz.underlying87
 a70:=Tryz.isAgg87
 z70:=Tryz.sizeOf87
 v70:=Tryz.zeroValue87
 t72:=Tryz.underlying90
 a72:=Tryz.isAgg90
 z72:=Tryz.sizeOf90
 v72:=Tryz.zeroValue90
 t75:=Tryz.underlying34
 a75:=Tryz.isAgg34
 z75:=Tryz.sizeOf34
 v75:=Tryz.zeroValue34
 t76:=Tryz.underlying92
 a76:=Tryz.isAgg92
 z76:=Tryz.sizeOf92
 v76:=Tryz.zeroValue92
 t127:=Tryz.underlying150
 a127:=Tryz.isAgg150
 z127:=Tryz.sizeOf150
 v127:=Tryz.zeroValue150
 t164:=Tryz.underlying192
 a164:=Tryz.isAgg192
 z164:=Tryz.sizeOf192
 v164:=Tryz.zeroValue192 }
theorem aFI:Builder.Extra Tryz.prog Fg where
 sizeBuilder:=by kernel_rfl
 liesBuilder:=by kernel_rfl
 t5:=by kernel_rfl
 a5:=λw=>(oJ (P:=Tryz.prog) (by kernel_rfl) w).1
 z5:=λw=>(oJ (P:=Tryz.prog) (by kernel_rfl) w).2
 v5:=by intro w;rfl
 infoByte:=by kernel_rfl
 cellsByte:=by kernel_rfl
 sizeByte:=by kernel_rfl
 neB5:=by decide
theorem ZA (l:List (List UInt8))(sep:List UInt8)(hN:l.length<1000000000)(hlen:(Lib.join l sep).length<=140737488355328)(X:Nat->Prop)(v:Value)(w:World)(hv:Sl X 1 (En Vc.encS) w v l) :
  aw Tryz.prog 21 [v,str sep] w λr w'=>r=str (Lib.join l sep)/\Below w.heap.size w w':=by
 refine dB Tryz.func21 (by kernel_rfl) (by kernel_rfl) ?_;cases l with
 | nil =>
  have eN:=hv.shape;obtain⟨a,c,rfl,hc⟩:=eN;refine Calls.mono (Any.strings_Join_none aFH aFI a c ⟨sep.toArray⟩ w) ?_;rintro e w' ⟨rfl,rfl⟩;exact⟨_,rfl,rfl,Below.refl _ _⟩
 | cons x l =>
  have oY:=hv.strs;obtain⟨b,o,c,rfl,hc,hb,aM⟩:=oY;have e1:(((x::l).map λt:List UInt8=>(⟨t.toArray⟩:ByteArray)).map (·.data.toList))=x::l:=by
   rw[List.map_map];exact List.map_id' _
  have hj:=Any.strings_Join aFH aFI b o c ((x::l).map λt:List UInt8=>(⟨t.toArray⟩:ByteArray)) ⟨sep.toArray⟩ w aM hb (by rw[List.length_map];omega) (by rw[List.length_map];exact hc) (by rw[e1];exact hlen);rw[e1,List.length_map]at hj;refine Calls.mono hj ?_;rintro e w' ⟨rfl,hbl⟩;exact⟨_,rfl,rfl,hbl⟩
end Go.Proofs.YtemjejfpadnljaaGreatDoor
namespace Cae
section
def tS (r:Rg):List UInt8:=iJ r.1.toNat++(if r.1<r.2 then 45::iJ r.2.toNat else [])
def gx (s:List Rg):List UInt8:=91::(Go.Lib.join (s.map tS) [32]++[93])
def Wr (s:List Rg):Prop:=∀r∈s,0<=r.1/\r.1<4294967296/\r.2<4294967296
theorem RD (r:Rg):(tS r).length<=19:=by
 unfold tS;have h1:=vt r.1.toNat;have h2:=vt r.2.toNat;split<;>simp<;>omega
theorem Tf (s:List Rg):(Go.Lib.join (s.map tS) [32]).length<=20*s.length:=by
 cases s with
 | nil=>simp[Go.Lib.join_nil]
 | cons r s =>
  rw[List.map_cons,Go.Lib.join_cons,List.length_append,Go.Lib.joinTail_length];have h1:=RD r;have h2:Go.Lib.lens (s.map tS)<=19*s.length:=by
   induction s with
   | nil=>simp[Go.Lib.lens]
   | cons q s ih =>
    have:=RD q;simp only[Go.Lib.lens,List.map_cons,List.sum_cons,List.length_cons]at ih ⊢
    omega
  simp only[List.length_cons,List.length_nil,List.length_map];omega
theorem Dn:∀{s:List Rg} {a:Int},-2<=a->aO a s=true->Wr s
 | [],_,_,_=>λr hr=>by cases hr
 | q::s,a,ha,h=>by
  rw[cI]at h;intro r hr;rcases List.mem_cons.1 hr with rfl|hr
  ·omega
  exact Dn (by omega) h.2 r hr
end
section
def nC (c:UInt8)(s:List UInt8):List UInt8×List UInt8×Bool:=if s.contains c then (s.takeWhile (· != c),(s.dropWhile (· != c)).drop 1,true) else (s,[],false)
def splitB (c:UInt8):List UInt8->List (List UInt8)
 | []=>[[]]
 | b::r=>if b == c then []::splitB c r else match splitB c r with
  | []=>[[b]]
  | p::ps=>(b::p)::ps
theorem wF (c:UInt8):∀s:List UInt8,Go.Lib.indexByte s c=if s.contains c then ((s.takeWhile (· != c)).length:Int) else -1
 | []=>rfl
 | b::r=>by
  rw[Go.Lib.indexByte,List.contains_cons,wF c r,List.takeWhile_cons];by_cases h:b=c
  ·subst h;simp
  have h1:(b == c)=false:=by simpa using h
  have h2:(c == b)=false:=by simpa using(λe=>h e.symm:¬c=b)
  have h3:(b != c)=true:=by simp[h]
  rw[h1,h2,h3,Bool.false_or];cases hc:r.contains c with
  | true =>
   have:¬((((r.takeWhile (· != c)).length:Nat):Int) == -1)=true:=by simp
   simp only[if_true,if_neg this,Bool.false_eq_true,if_false,List.length_cons];omega
  | false=>simp
theorem Au (p:UInt8->Bool):∀s:List UInt8,s.take (s.takeWhile p).length=s.takeWhile p
 | []=>rfl
 | b::r=>by
  rw[List.takeWhile_cons];split
  ·rw[List.length_cons,List.take_succ_cons,Au p r]
  rfl
theorem Gr (p:UInt8->Bool):∀s:List UInt8,s.drop (s.takeWhile p).length=s.dropWhile p
 | []=>rfl
 | b::r=>by
  rw[List.takeWhile_cons,List.dropWhile_cons];split
  ·rw[List.length_cons,List.drop_succ_cons,Gr p r]
  rfl
theorem RZ {c:UInt8}:∀{s:List UInt8},s.contains c=true->(s.takeWhile (· != c)).length<s.length
 | [],h=>by cases h
 | b::r,h=>by
  rw[List.takeWhile_cons];split
  ·rename_i hb;have:r.contains c=true:=by
    rw[List.contains_cons,Bool.or_eq_true]at h;rcases h with h|h
    ·have:c=b:=by simpa using h
     subst this;simp at hb
    exact h
   have:=RZ this;simp only[List.length_cons];omega
  simp
theorem PK {c:UInt8}:∀{s:List UInt8},s.contains c=false->s.takeWhile (· != c)=s
 | [],_=>rfl
 | b::r,h=>by
  rw[List.contains_cons,Bool.or_eq_false_iff]at h;have h1:(b != c)=true:=by have:=h.1;simp at this;simp;exact λe=>this e.symm
  rw[List.takeWhile_cons,if_pos h1,PK h.2]
theorem tW (p:UInt8->Bool):∀s:List UInt8,(s.dropWhile p).length<=s.length
 | []=>Nat.le_refl _
 | b::r=>by
  have:=tW p r;rw[List.dropWhile_cons];split<;>simp<;>omega
theorem XP (c:UInt8)(s:List UInt8):(nC c s).1.length<=s.length/\(nC c s).2.1.length<=s.length:=by
 unfold nC;split
 ·rename_i h;have h1:=RZ h;have h2:=tW (· != c) s;refine⟨by show (s.takeWhile (· != c)).length<=_;omega,?_⟩
  show ((s.dropWhile (· != c)).drop 1).length<=_
  rw[List.length_drop];omega
 simp
theorem Uv (c:UInt8):∀s,splitB c s≠[]
 | []=>by simp[splitB]
 | b::r=>by
  rw[splitB];split
  ·simp
  split<;>simp
theorem tB (c:UInt8):∀s:List UInt8,splitB c s=s.takeWhile (· != c)::(if s.contains c then splitB c ((s.dropWhile (· != c)).drop 1) else [])
 | []=>rfl
 | b::r=>by
  rw[splitB,List.takeWhile_cons,List.dropWhile_cons,List.contains_cons];by_cases h:b=c
  ·subst h;simp
  have h1:(b == c)=false:=by simpa using h
  have h2:(c == b)=false:=by simpa using λe=>h e.symm
  have h3:(b != c)=true:=by simp[h]
  rw[h1,h2,h3,Bool.false_or,tB c r];rfl
theorem uq (c:UInt8):∀s:List UInt8,(splitB c s).length<=s.length+1
 | []=>by simp[splitB]
 | b::r=>by
  have h:=uq c r;rw[splitB];split
  ·simp;omega
  cases hs:splitB c r with
  | nil=>simp
  | cons p ps=>rw[hs]at h;simp at h ⊢;omega
theorem qW (c:UInt8):∀(s p:List UInt8),p∈splitB c s->p.length<=s.length
 | [],p,h=>by simp[splitB]at h;subst h;simp
 | b::r,p,h=>by
  rw[splitB]at h;split at h
  ·rcases List.mem_cons.1 h with rfl|h
   ·simp
   have:=qW c r p h;simp;omega
  cases hs:splitB c r with
  | nil=>exact absurd hs (Uv c r)
  | cons q qs =>
   rw[hs]at h;rcases List.mem_cons.1 h with rfl|h
   ·have:=qW c r q (by rw[hs];simp);simp;omega
   have:=qW c r p (by rw[hs];simp[h]);simp;omega
end
end Cae
namespace Go.Proofs.YtemjejfpadnljaaGreatDoor
open Go.Vc Go.Proofs Go.RowKit Cae
attribute [local irreducible] dN ae ak aY runK aw Sl Vc.Own vc aV cJ a7
theorem Qz (s:List Rg)(hs:s.length<10000000)(hw:Wr s)(X:Nat->Prop)(v:Value)(w:World)(hv:Sl X 2 (En bF) w v s)(h:Db w) :
  aw Tryz.prog 168 [v] w λr w'=>r=str (gx s)/\Below w.heap.size w w':=by
 obtain⟨a,c,rfl,hc⟩:=hv.shape;refine aD Tryz.func168 rfl (by kernel_rfl) [2] rfl ?_;push_cast -dsimp(maxSteps:=9^7) [Tryz.ntmps168];refine aK [3,5,6,9,10,11,12,13,14,15,16,17,18,19,20,21,22,23,24,25,26,27,28,29,30,31] (λz wx=>∃(i:Nat) (ov:Value),z 9=.int .i64 i/\z 3=ov/\i<=s.length/\Vc.Own w.heap.size 9 1 Vc.encS wx ov ((s.take i).map tS)/\Below w.heap.size w wx) (λz _=>s.length-(intOf (z 9)).toNat) ?_ ?_
 ·exact⟨0,_,rfl,rfl,Nat.zero_le _,Vc.Own.nil (enc:=Vc.encS) _ _ (λ_=>rfl) _,Below.refl _ _⟩
 intro z wx hI;obtain⟨i,ov,h9,h3,hi,eU,bS⟩:=hI;have A5:=bS.size;push_cast -dsimp[h9,h3];refine⟨λaq=>?_,λeo=>?_⟩
 ·have hg:=ag (l:=s) (i:=i) (by omega);obtain⟨x,hx,jJ,_,ht⟩:=hg;have pG:=hv.below bS;have hg:=pG.get hx;obtain⟨b,o,rfl,kL,aM⟩:=hg;have cx:aB wx ⟨b,o+i*2,none⟩ 0 2=some [.int .i64 x.1,.int .i64 x.2]:=ao (bF x) 0 (λj u hu=>by simpa using aM j u hu);have hxw:=hw x jJ;obtain⟨x1,x2,x3⟩:=hxw;have S9:(s.take (i+1)).map tS=(s.take i).map tS++[tS x]:=by
   rw[ht,List.map_append];rfl
  have hgn:∃n:Nat,x.1=n:=⟨x.1.toNat,by omega⟩;obtain⟨n,hn⟩:=hgn;rw[hn]at cx;push_cast -dsimp[cx];refine⟨⟨by omega,by omega⟩,?_⟩;refine ah (z:=[.int .i64 0,.int .i64 0]) (by kernel_rfl) ?_;intro w3 dA;have PA:=dA.size;push_cast -dsimp;refine aI (n:=2) (by kernel_rfl) dA.aL rfl (by simp) (by simp[Value.oneCell']) ?_;intro w4 aj;have Mn:=aj.size;have c0:w4.cell? ⟨wx.heap.size,0,none⟩=some (.int .i64 (n:Int)):=aj.aL.cell rfl;have c1:w4.cell? ⟨wx.heap.size,1,none⟩=some (.int .i64 x.2):=aj.aL.cell rfl;push_cast -dsimp[c0,c1];have k4:Kept (λj=>j=wx.heap.size) wx w4:=(Kept.new dA).trans aj.kept (λ_ _ h=>h);have ly:=eU.aH k4 (λg hg h=>by have:=eU.block g hg;omega);have kK:Below w.heap.size w w4:=bS.trans (k4.below A5 (λ_ h=>by omega));have eN:=ly.slice;obtain⟨oa,oc,rfl⟩:=eN;refine aA (aFt n (by omega) w4 (h.below kK h.lt)) ?_;rintro _ w5 ⟨rfl,jq⟩;have PC:=jq.size;have EC:=ly.below jq;have Hd:=kK.trans (jq.mono (show w.heap.size<=w4.heap.size by omega))
  have c5:w5.cell? ⟨wx.heap.size,0,none⟩=some (.int .i64 (n:Int)):=(jq.cell (by show wx.heap.size<w4.heap.size;omega)).trans c0
  have c5':w5.cell? ⟨wx.heap.size,1,none⟩=some (.int .i64 x.2):=(jq.cell (by show wx.heap.size<w4.heap.size;omega)).trans c1
  push_cast -dsimp[c5,c5'];refine⟨λJQ=>?_,λhle=>?_⟩
  ·have hgm:∃m:Nat,x.2=m:=⟨x.2.toNat,by omega⟩;obtain⟨m,hm⟩:=hgm;have hrg:tS x=iJ n++45::iJ m:=by unfold tS;rw[if_pos (by omega),hn,hm];rfl
   rw[hm]at c5';rw[hm];refine aA (aFt m (by omega) w5 (h.below Hd h.lt)) ?_;rintro _ w6 ⟨rfl,lk⟩;have MN:=lk.size;have rA:=EC.below lk;have sY:=Hd.trans (lk.mono (show w.heap.size<=w5.heap.size by omega))
   have yq:=vt n;have oX:=vt m;push_cast -dsimp;refine⟨by omega,by simp only[List.length_append,List.length_cons,List.length_nil];omega,?_⟩;refine cF uE rfl rfl (by omega) ?_;intro w7 fQ;have MO:w7.heap.size=w6.heap.size+1:=fQ.size;have nM:=rA.new fQ;push_cast -dsimp;refine aP (base:=w.heap.size) [tS x] (enc:=Vc.encS) uE nM (by rfl) (λj u hu=>by rw[hrg]at hu;rw[Nat.zero_add];exact fQ.cell hu) (by simp[Vc.encS,str,Value.oneCell']) (by simp only[List.length_cons,List.length_nil,List.length_map,List.length_take];omega) (by omega) ?_;intro v8 w8 sd E0 hn8;have j5:Below w.heap.size w w8:=(sY.trans (fQ.below.mono (by omega))).trans ((Kept.grown (X:=λj=>w.heap.size<=j) E0 (λk hk=>(nM.block k hk).1)).below (by omega) (λ_ h=>h));rw[<-S9]at sd;push_cast -dsimp;exact⟨⟨by omega,by omega⟩,⟨i+1,_,rfl,rfl,by omega,sd,j5⟩,by rw[h9];simp only[intOf];omega⟩
  have hrg:tS x=iJ n:=by unfold tS;rw[if_neg (by omega),hn];exact List.append_nil _
  refine cF uE rfl rfl (by omega) ?_;intro w7 fQ;have MO:w7.heap.size=w5.heap.size+1:=fQ.size;have nM:=EC.new fQ;push_cast -dsimp;refine aP (base:=w.heap.size) [tS x] (enc:=Vc.encS) uE nM (by rfl) (λj u hu=>by rw[hrg]at hu;rw[Nat.zero_add];exact fQ.cell hu) (by simp[Vc.encS,str,Value.oneCell']) (by simp only[List.length_cons,List.length_nil,List.length_map,List.length_take];omega) (by omega) ?_;intro v8 w8 sd E0 hn8;have j5:Below w.heap.size w w8:=(Hd.trans (fQ.below.mono (by omega))).trans ((Kept.grown (X:=λj=>w.heap.size<=j) E0 (λk hk=>(nM.block k hk).1)).below (by omega) (λ_ h=>h));rw[<-S9]at sd;push_cast -dsimp;exact⟨⟨by omega,by omega⟩,⟨i+1,_,rfl,rfl,by omega,sd,j5⟩,by rw[h9];simp only[intOf];omega⟩
 have oh:i=s.length:=by omega
 subst oh;rw[List.take_length]at eU;have hjl:=Tf s;refine aA (ZA (s.map tS) [32] (by rw[List.length_map];omega) (by omega) _ _ wx eU.sl) ?_;rintro _ w6 ⟨rfl,lk⟩;have sY:=bS.trans (lk.mono A5);push_cast -dsimp;refine⟨by omega,by simp only[List.length_append,List.length_cons,List.length_nil];omega,?_,sY⟩;rfl
def OL:Go.Shelf.Ren:=⟨λ| 143=>202|219=>203|217=>119|225=>85|224=>84|267=>215|266=>144|314=>223|n=>n,λ| 9=>9|3=>3|4=>4|5=>5|46=>133|146=>295|51=>168|n=>n,λ| 1=>2|n=>n⟩
theorem aH3:Go.Proofs.Lays.n143 Tryz.prog OL:={
 mixed:=by kernel_rfl
 f143:=Tryz.func202.trans (congrArg some (by kernel_rfl))
 f217:=Tryz.func119.trans (congrArg some (by kernel_rfl))
 f219:=Tryz.func203.trans (congrArg some (by kernel_rfl))
 f224:=Tryz.func84.trans (congrArg some (by kernel_rfl))
 f225:=Tryz.func85.trans (congrArg some (by kernel_rfl))
 f266:=Tryz.func144.trans (congrArg some (by kernel_rfl))
 f267:=Tryz.func215.trans (congrArg some (by kernel_rfl))
 f314:=Tryz.func223.trans (congrArg some (by kernel_rfl))
 t3:=Tryz.underlying3
 a3:=Tryz.isAgg3
 z3:=Tryz.sizeOf3
 v3:=Tryz.zeroValue3
 t4:=Tryz.underlying4
 a4:=Tryz.isAgg4
 z4:=Tryz.sizeOf4
 v4:=Tryz.zeroValue4
 t5:=Tryz.underlying5
 a5:=Tryz.isAgg5
 z5:=Tryz.sizeOf5
 v5:=Tryz.zeroValue5
 t9:=Tryz.underlying9
 a9:=Tryz.isAgg9
 z9:=Tryz.sizeOf9
 v9:=Tryz.zeroValue9
 t46:=Tryz.underlying133
 a46:=Tryz.isAgg133
 z46:=Tryz.sizeOf133
 v46:=Tryz.zeroValue133
 t51:=Tryz.underlying168
 a51:=Tryz.isAgg168
 z51:=Tryz.sizeOf168
 v51:=Tryz.zeroValue168
 t146:=Tryz.underlying295
 a146:=Tryz.isAgg295
 z146:=Tryz.sizeOf295
 v146:=Tryz.zeroValue295
 g1:=by kernel_rfl }
def Ku:Go.Shelf.Ren:=⟨λ| 219=>203|217=>119|225=>85|224=>84|267=>215|266=>144|314=>223|n=>n,λ| 9=>9|3=>3|4=>4|5=>5|46=>133|146=>295|51=>168|n=>n,λ| 1=>2|n=>n⟩
theorem aDj:Go.Proofs.Lays.n219 Tryz.prog Ku:={
 mixed:=by kernel_rfl
 f217:=Tryz.func119.trans (congrArg some (by kernel_rfl))
 f219:=Tryz.func203.trans (congrArg some (by kernel_rfl))
 f224:=Tryz.func84.trans (congrArg some (by kernel_rfl))
 f225:=Tryz.func85.trans (congrArg some (by kernel_rfl))
 f266:=Tryz.func144.trans (congrArg some (by kernel_rfl))
 f267:=Tryz.func215.trans (congrArg some (by kernel_rfl))
 f314:=Tryz.func223.trans (congrArg some (by kernel_rfl))
 t3:=Tryz.underlying3
 a3:=Tryz.isAgg3
 z3:=Tryz.sizeOf3
 v3:=Tryz.zeroValue3
 t4:=Tryz.underlying4
 a4:=Tryz.isAgg4
 z4:=Tryz.sizeOf4
 v4:=Tryz.zeroValue4
 t5:=Tryz.underlying5
 a5:=Tryz.isAgg5
 z5:=Tryz.sizeOf5
 v5:=Tryz.zeroValue5
 t9:=Tryz.underlying9
 a9:=Tryz.isAgg9
 z9:=Tryz.sizeOf9
 v9:=Tryz.zeroValue9
 t46:=Tryz.underlying133
 a46:=Tryz.isAgg133
 z46:=Tryz.sizeOf133
 v46:=Tryz.zeroValue133
 t51:=Tryz.underlying168
 a51:=Tryz.isAgg168
 z51:=Tryz.sizeOf168
 v51:=Tryz.zeroValue168
 t146:=Tryz.underlying295
 a146:=Tryz.isAgg295
 z146:=Tryz.sizeOf295
 v146:=Tryz.zeroValue295
 g1:=by kernel_rfl }
def Jj:Go.Shelf.Ren:=⟨λ| 103=>163|210=>181|206=>198|n=>n,λ| 9=>9|4=>4|24=>246|3=>3|n=>n,λ| n=>n⟩
theorem aB4:Go.Proofs.Lays.n103 Tryz.prog Jj:={
 mixed:=by kernel_rfl
 f103:=Tryz.func163.trans (congrArg some (by kernel_rfl))
 f206:=Tryz.func198.trans (congrArg some (by kernel_rfl))
 f210:=Tryz.func181.trans (congrArg some (by kernel_rfl))
 t3:=Tryz.underlying3
 a3:=Tryz.isAgg3
 z3:=Tryz.sizeOf3
 v3:=Tryz.zeroValue3
 t4:=Tryz.underlying4
 a4:=Tryz.isAgg4
 z4:=Tryz.sizeOf4
 v4:=Tryz.zeroValue4
 t9:=Tryz.underlying9
 a9:=Tryz.isAgg9
 z9:=Tryz.sizeOf9
 v9:=Tryz.zeroValue9
 t24:=Tryz.underlying246
 a24:=Tryz.isAgg246
 z24:=Tryz.sizeOf246
 v24:=Tryz.zeroValue246 }
def Jk:Go.Shelf.Ren:=⟨λ| 104=>164|211=>182|207=>199|n=>n,λ| 9=>9|4=>4|24=>246|3=>3|n=>n,λ| n=>n⟩
theorem aB5:Go.Proofs.Lays.n104 Tryz.prog Jk:={
 mixed:=by kernel_rfl
 f104:=Tryz.func164.trans (congrArg some (by kernel_rfl))
 f207:=Tryz.func199.trans (congrArg some (by kernel_rfl))
 f211:=Tryz.func182.trans (congrArg some (by kernel_rfl))
 t3:=Tryz.underlying3
 a3:=Tryz.isAgg3
 z3:=Tryz.sizeOf3
 v3:=Tryz.zeroValue3
 t4:=Tryz.underlying4
 a4:=Tryz.isAgg4
 z4:=Tryz.sizeOf4
 v4:=Tryz.zeroValue4
 t9:=Tryz.underlying9
 a9:=Tryz.isAgg9
 z9:=Tryz.sizeOf9
 v9:=Tryz.zeroValue9
 t24:=Tryz.underlying246
 a24:=Tryz.isAgg246
 z24:=Tryz.sizeOf246
 v24:=Tryz.zeroValue246 }
theorem aDl (s:List UInt8)(c:UInt8)(w:World):aw Tryz.prog 202 [str s,str [c]] w λr w'=>r=.int .i64 (Lib.indexByte s c)/\w'=w:=by
 refine dB Tryz.func202 (by kernel_rfl) (by kernel_rfl) ?_;refine Calls.mono (Any.strings_Index_one aH3 ⟨s.toArray⟩ c w) ?_;rintro e w' ⟨rfl,rfl⟩;exact⟨_,rfl,rfl,rfl⟩
theorem aDk (s:List UInt8)(c:UInt8)(w:World):aw Tryz.prog 203 [str s,str [c]] w λr w'=>r=.int .i64 (Lib.indexByte s c)/\w'=w:=by
 refine dB Tryz.func203 (by kernel_rfl) (by kernel_rfl) ?_;refine Calls.mono (Any.stringslite_Index_one aDj ⟨s.toArray⟩ c w) ?_;rintro e w' ⟨rfl,rfl⟩;exact⟨_,rfl,rfl,rfl⟩
theorem XQ (s p:List UInt8)(w:World):aw Tryz.prog 163 [str s,str p] w λr w'=>r=.tuple #[str (Lib.trimPrefix s p),.bool (Lib.hasPrefix s p)]/\w'=w:=by
 refine dB Tryz.func163 (by kernel_rfl) (by kernel_rfl) ?_;refine Calls.mono (Any.strings_CutPrefix aB4 ⟨s.toArray⟩ ⟨p.toArray⟩ w) ?_;rintro e w' ⟨rfl,rfl⟩;exact⟨_,rfl,rfl,rfl⟩
theorem XS (s p:List UInt8)(hs:s.length<=9223372036854775807)(w:World):aw Tryz.prog 164 [str s,str p] w λr w'=>r=.tuple #[str (Lib.trimSuffix s p),.bool (Lib.hasSuffix s p)]/\w'=w:=by
 refine dB Tryz.func164 (by kernel_rfl) (by kernel_rfl) ?_;refine Calls.mono (Any.strings_CutSuffix aB5 ⟨s.toArray⟩ ⟨p.toArray⟩ w hs) ?_;rintro e w' ⟨rfl,rfl⟩;exact⟨_,rfl,rfl,rfl⟩
theorem aJ2 (s:List UInt8)(c:UInt8)(hs:s.length<=1000000000)(w:World):aw Tryz.prog 184 [str s,str [c]] w λr w'=>r=.tuple #[str (nC c s).1,str (nC c s).2.1,.bool (nC c s).2.2]/\Below w.heap.size w w':=by
 refine aD Tryz.func184 rfl (by kernel_rfl) [4,5,6] rfl ?_;push_cast -dsimp(maxSteps:=9^7) [Tryz.ntmps184];refine aA (aDk s c w) ?_;rintro _ w1 ⟨rfl,rfl⟩;rw[wF];unfold nC;cases hc:s.contains c with
 | false =>
  simp only[Bool.false_eq_true,if_false];push_cast -dsimp;exact Below.refl _ _
 | true =>
  simp only[if_true];have aq:=RZ hc;have hg:∃k,(s.takeWhile (· != c)).length=k:=⟨_,rfl⟩;obtain⟨k,hk⟩:=hg;have h1:s.takeWhile (· != c)=s.take k:=by rw[<-hk];exact(Au _ s).symm
  have h2:(s.dropWhile (· != c)).drop 1=s.drop (k+1):=by rw[<-Gr,List.drop_drop,hk]
  rw[h1,h2];rw[hk]at aq;have h3:(s.take k).length=k:=by rw[List.length_take];omega
  rw[h3];have eo:decide ((k:Int)>=0)=true:=decide_eq_true (by omega);push_cast -dsimp[eo];refine bu (λ_=>True) mixed (by kernel_rfl) trivial ?_;push_cast -dsimp;refine⟨by omega,by omega,by omega,?_,(Below.refl _ _).drew⟩;rw[show ((k:Int)+1).toNat=k+1 by omega]
theorem aJ1 (s:List UInt8)(c:UInt8)(hs:s.length<=1000000000)(w:World):aw Tryz.prog 166 [str s,str [c]] w λr w'=>r=.tuple #[str (nC c s).1,str (nC c s).2.1,.bool (nC c s).2.2]/\Below w.heap.size w w':=by
 refine aD Tryz.func166 rfl (by kernel_rfl) [4,5,6] rfl ?_;push_cast -dsimp(maxSteps:=9^7) [Tryz.ntmps166];refine aA (aJ2 s c hs w) ?_;rintro _ w1 ⟨rfl,hb⟩;push_cast -dsimp;exact hb
end Go.Proofs.YtemjejfpadnljaaGreatDoor
namespace Cae
def dv (b:UInt8):Nat:=if b.toNat<=57 then b.toNat-48 else b.toNat-87
def nP (b:UInt8):Bool:=(decide (48<=b.toNat) && decide (b.toNat<=57)) || (decide (97<=b.toNat) && decide (b.toNat<=102))
def jH (l:List UInt8):Nat:=l.foldl (λm b=>16*m+dv b) 0
theorem sU:∀d:Nat,d<16->nP (SJ d)=true/\dv (SJ d)=d:=by decide
theorem K2:∀(f n:Nat) (acc:List UInt8),n<16 ^ (f+1)->(∀b∈acc,nP b=true)->∀b∈rU f n acc,nP b=true
 | 0,n,acc,hn,h=>by
  rw[rU];intro b hb;rcases List.mem_cons.1 hb with rfl|hb
  ·exact(sU n (by omega)).1
  exact h b hb
 | f+1,n,acc,hn,h=>by
  rw[rU];split
  ·intro b hb;rcases List.mem_cons.1 hb with rfl|hb
   ·exact(sU n (by omega)).1
   exact h b hb
  refine K2 f (n / 16) _ (Nat.div_lt_of_lt_mul (by rw[Nat.mul_comm,<-Nat.pow_succ];exact hn)) ?_;intro b hb;rcases List.mem_cons.1 hb with rfl|hb
  ·exact(sU (n % 16) (by omega)).1
  exact h b hb
theorem FR (l:List UInt8):∀m:Nat,l.foldl (λm b=>16*m+dv b) m=16 ^ l.length*m+jH l:=by
 unfold jH;induction l with
 | nil=>intro m;simp
 | cons b l ih =>
  intro m;rw[List.foldl_cons,List.foldl_cons,ih,ih (16*0+dv b),List.length_cons,Nat.pow_succ,Nat.mul_add];have:16 ^ l.length*(16*m)=16 ^ l.length*16*m:=by rw[Nat.mul_assoc]
  rw[this];simp;omega
theorem yA (b:UInt8)(l:List UInt8):jH (b::l)=16 ^ l.length*dv b+jH l:=by
 have:=FR l (16*0+dv b);unfold jH at this ⊢
 rw[List.foldl_cons,this];simp
theorem K4:∀(f n:Nat) (acc:List UInt8),n<16 ^ (f+1)->jH (rU f n acc)=16 ^ acc.length*n+jH acc
 | 0,n,acc,hn=>by rw[rU,yA,(sU n (by omega)).2]
 | f+1,n,acc,hn=>by
  rw[rU];split
  ·rw[yA,(sU n (by omega)).2]
  rw[K4 f (n / 16) _ (Nat.div_lt_of_lt_mul (by rw[Nat.mul_comm,<-Nat.pow_succ];exact hn)),yA,(sU (n % 16) (by omega)).2,List.length_cons,Nat.pow_succ];have h1:=Nat.div_add_mod n 16;have h2:16 ^ acc.length*n=16 ^ acc.length*16*(n / 16)+16 ^ acc.length*(n % 16):=by
   rw[Nat.mul_assoc,<-Nat.mul_add,h1]
  rw[h2];omega
theorem gJ {n:Nat}(hn:n<4294967296):∀b∈iJ n,nP b=true:=K2 8 n [] (by omega) (λb h=>by cases h)
theorem jt {n:Nat}(hn:n<4294967296):jH (iJ n)=n:=by
 unfold iJ;rw[K4 8 n [] (by omega)];simp[jH]
theorem QP:∀(f n:Nat) (acc:List UInt8),rU f n acc≠[]
 | 0,n,acc=>by rw[rU];simp
 | f+1,n,acc=>by
  rw[rU];split
  ·simp
  exact QP f _ _
theorem Ac (n:Nat):iJ n≠[]:=QP 8 n []
theorem FW (l:List UInt8)(b:UInt8):jH (l++[b])=16*jH l+dv b:=by
 unfold jH;rw[List.foldl_append];rfl
theorem FX (l:List UInt8)(i:Nat):jH (l.take i)<=jH l:=by
 have e:=FR (l.drop i) (jH (l.take i));have h0:jH l=16 ^ (l.drop i).length*jH (l.take i)+jH (l.drop i):=by
  rw[<-e]
  conv=>lhs;rw[<-List.take_append_drop i l]
  unfold jH;rw[List.foldl_append]
 have h1:1<=16 ^ (l.drop i).length:=Nat.pos_of_ne_zero (by simp);rw[h0];exact Nat.le_trans (Nat.le_mul_of_pos_left (jH (l.take i)) h1) (Nat.le_add_right _ _)
end Cae
namespace Go.Vc
open Go.RowKit
def Byt (w:World)(b:Nat)(e:TypeId)(l:List UInt8):Prop :=
 ∃(cs:Array Value) (n:Nat),w.heap[b]?=some (.cells cs e (n,n+1))/\cs.size<=n/\∀(j:Nat) (c:UInt8),l[j]?=some c->cs[j]?=some (Value.int IntKind.u8 (c.toNat:Int))
theorem Byt.cell {w:World}{b:Nat}{e:TypeId}{l:List UInt8}(h:Byt w b e l){j:Nat}{c:UInt8}(hc:l[j]?=some c):w.cell? ⟨b,j,none⟩=some (.int .u8 (c.toNat:Int)):=by
 obtain⟨cs,n,h,_,hh⟩:=h;simp[World.cell?,h,hh j c hc]
theorem aF8 {P:Program}{s d e:TypeId}{l:List UInt8}{t:Fr}{w:World}{K:VK}{Q:EP}{p}(hs:P.underlying s=some .string)(hd:P.underlying d=some (.slice e))(he:P.underlying e=some (.int .u8))
  (kk:∀c w',l.length<=c->Byt w' w.heap.size e l->Below w.heap.size w w'->K (.slice (some ⟨w.heap.size,0,none⟩) l.length c) w'):ak P (convert s d (str l)) t w K Q p:=by
 have hr:=run_bytes_of_string (P:=P) w s d e ⟨l.toArray⟩ hs hd he;have ED:ByteArray.size ⟨l.toArray⟩=l.length:=by simp[ByteArray.size]
 refine fN hr ?_;rw[ED];refine kk _ _ (grownCap_ge _ _ _ _) ⟨bytesRow ⟨l.toArray⟩ (grownCap w l.length 0 e),(bytesRow ⟨l.toArray⟩ (grownCap w l.length 0 e)).size,?_,Nat.le_refl _,λj c hj=>?_⟩ ((Below.refl w.heap.size w).drew.alloc (Nat.le_refl _) _)
 ·exact heap_alloc_new w.drew _
 have aq:=(List.getElem?_eq_some_iff.1 hj).1
 have:=bytesRow_at ⟨l.toArray⟩ (grownCap w l.length 0 e) j (by simpa using aq);rw[this];have:l[j]?=some l[j]:=List.getElem?_eq_getElem aq;rw[this]at hj;cases hj;simp
theorem aGn {L:VP}{other:Prop}(ty v ty' v' c)(p):cX 1 c .eql (.iface ty v) (.iface ty' v') L other p=other:=(rfl)
theorem aDU {L:VP}{other:Prop}(ty v ty' v' c)(p):cX 1 c .neq (.iface ty v) (.iface ty' v') L other p=other:=(rfl)
attribute [push_cast] aGn aDU
theorem ml {P:Program}{o:Oper}{t:Fr}{w:World}{K:VK}{Q:EP}{ty:TypeId}{x y:Operand}{z:TypeId}{te:TypeId}{k q:IntKind}{a b:Int}{ms:Array (String×TypeId)}(ho:o.op=.binOp .neq ty x y z)(hx:ev t x=.iface te (.int k a))(hy:ev t y=.iface te (.int k b))
  (ht:P.underlying ty=some (.interface ms)) (hc:(P.info? te).map (·.comparable)=some true) (he:P.underlying te=some (.int q)) (kk:K (.bool (!(a == b))) w):runK P o t w K Q .mk:=by
 refine gQ (s:=do eqGuard .neq ty x y (ev t x) (ev t y);binOp .neq ty (ev t x) (ev t y)) (by unfold execOp;simp only[ho]) (fN (w':=w) ?_ kk);rw[Sem.run_bind,oT (.inl (by rw[hx];simp)) (by intro c;rw[hx];simp)]
 show (binOp .neq ty (ev t x) (ev t y)).run P w=_
 rw[hx,hy];exact Lib.run_neq_iface_int w a b ht hc he
end Go.Vc
namespace Go.Proofs.YtemjejfpadnljaaGreatDoor
open Go.Vc Go.Proofs Go.RowKit Cae
attribute [local irreducible] dN ae ak aY runK aw Sl Vc.Own vc aV cJ a7
theorem aMM:∀b:Nat,b<256->0<=cR .or .u8 (b:Int) 32/\cR .or .u8 (b:Int) 32<=255/\(97<=b->b<=102->cR .or .u8 (b:Int) 32=b)/\(b<48->cR .or .u8 (b:Int) 32<97)/\(b=95->cR .or .u8 (b:Int) 32=127):=by decide +kernel
theorem mX (b:Int)(w:World):aw Tryz.prog 216 [.int .u8 b] w λr w'=>r=.int .u8 (cR .or .u8 b 32)/\w'=w:=by
 refine aD Tryz.func216 rfl (by kernel_rfl) [2] rfl ?_;push_cast -dsimp(maxSteps:=9^7) [Tryz.ntmps216]
def aJT (e:Value):Prop:=e=.nilIface\/e=.iface 276 (.int .i64 1)\/e=.iface 276 (.int .i64 2)
theorem ru (bits:Int)(lW:bits=32\/bits=40)(s:List UInt8)(hs:s.length<=1000000000)(w:World):aw Tryz.prog 204 [str s,.int .i64 16,.int .i64 bits] w λr w'=>(∃(v:Nat) (e:Value),r=.tuple #[.int .u64 (v:Int),e]/\v<1099511627776/\aJT e/\(∀n<4294967296,s=iJ n->v=n/\e=.nilIface))/\Below w.heap.size w w':=by
 refine aD Tryz.func204 rfl (by kernel_rfl) [6,7] rfl ?_;push_cast -dsimp(maxSteps:=9^7) [Tryz.ntmps204];by_cases cf:s=[]
 ·subst cf;have e0:decide (([]:List UInt8)=[])=true:=rfl;push_cast -dsimp(maxSteps:=9^7) [e0];refine⟨⟨0,_,rfl,by omega,.inr (.inr rfl),λn _ h=>absurd h.symm (Ac n)⟩,Below.refl _ _⟩
 have ef:decide False=false:=rfl;have emx:∃mx:Nat,IntKind.u64.wrap (IntKind.u64.wrap (1*2 ^ min (IntKind.u64.wrap bits).toNat IntKind.u64.bits)-1)=(mx:Int)/\4294967295<=mx/\mx<1099511627776:=by
  rcases lW with rfl|rfl
  ·exact⟨4294967295,by decide,by omega,by omega⟩
  exact⟨1099511627775,by decide,by omega,by omega⟩
 obtain⟨mx,emx,aWx,aWy⟩:=emx;push_cast -dsimp(maxSteps:=9^7) [ef];refine⟨λh=>absurd h cf,λ_=>⟨λh=>by omega,λ_=>⟨λ_=>⟨λh=>by omega,λ_=>⟨by rcases lW with rfl|rfl<;>decide,?_⟩⟩,λh=>by omega⟩⟩⟩;rw[emx];refine aF8 (e:=5) (by kernel_rfl) (by kernel_rfl) (by kernel_rfl) ?_;intro cap w1 aPC oU gS;have qw:=gS.size;push_cast -dsimp(maxSteps:=9^7) [ef];refine aK [6,7,12,13,15,16,17,101,102,103,104,105,106,107,108,109,110,111,112,113,114,115,116,117,118,119,120,121,122,123,124,125,126,127,128,129,130,131,132,133,134,135,136,137,138,139,140,141,142,143,144,145,146,147,148,149,150,151,152,153,154,155,156,157,158,159,160,161,162,163] (λz wx=>∃(i m:Nat),z 101=.int .i64 (i:Int)/\z 13=.int .u64 (m:Int)/\z 12=.bool false/\i<=s.length/\m<=mx/\((∀b∈s,nP b=true)->jH s<4294967296->m=jH (s.take i))/\Below w.heap.size w wx/\Byt wx w.heap.size 5 s) (λz _=>s.length-(intOf (z 101)).toNat) ?_ ?_
 ·exact⟨0,0,rfl,rfl,rfl,Nat.zero_le _,by omega,λ_ _=>rfl,gS,oU⟩
 intro z wx hI;obtain⟨i,m,aGx,Hc,AK,hi,hm,hv,bS,lr⟩:=hI;push_cast -dsimp(maxSteps:=9^7) [aGx,Hc,AK,ef];refine⟨λaq=>?_,λeo=>?_⟩
 ·have hg:=ag (l:=s) (i:=i) (by omega);obtain⟨x,hx,jJ,hxd,hxt⟩:=hg;have cx:=lr.cell hx;have j5:x.toNat<256:=x.toNat_lt;have uM:=aMM x.toNat j5;have Ed:(∀b∈s,nP b=true)->nP x=true:=λh=>h x jJ;have YU:dv x=if x.toNat<=57 then x.toNat-48 else x.toNat-87:=rfl
  have Kc:nP x=((decide (48<=x.toNat) && decide (x.toNat<=57)) || (decide (97<=x.toNat) && decide (x.toNat<=102))):=rfl;have Ad:∃b,x.toNat=b:=⟨_,rfl⟩;obtain⟨b,hb⟩:=Ad;rw[hb]at cx j5 uM YU Kc;have hgl:∃l,cR .or .u8 (b:Int) 32=l:=⟨_,rfl⟩;obtain⟨l,hl⟩:=hgl;rw[hl]at uM;have hgl:∃lo:Nat,l=(lo:Int):=⟨l.toNat,by omega⟩;obtain⟨lo,Ag⟩:=hgl;subst Ag;have tH:decide ((m:Int)>=1152921504606846976)=false:=decide_eq_false (by omega);have e16:IntKind.u8.wrap 16=16:=by decide
  have aB9:IntKind.u64.wrap 16=16:=by decide
  have hgk:∃k,16*m=k:=⟨_,rfl⟩;obtain⟨k,hk⟩:=hgk;have ek:IntKind.u64.wrap ((m:Int)*16)=(k:Int):=by
   rw[show (m:Int)*16=(k:Int) by omega,fo,Nat.mod_eq_of_lt (by omega)]
  refine⟨by omega,?_⟩;obtain⟨Mh,yq,oX,QX,EB⟩:=uM;by_cases hA:48<=b/\b<=57
  ·have SL:decide ((b:Int)=95)=false:=decide_eq_false (by omega);have e1:decide (48<=(b:Int))=true:=decide_eq_true (by omega);have e2:decide ((b:Int)<=57)=true:=decide_eq_true (by omega);have Vb:∃dn:Nat,b-48=dn:=⟨_,rfl⟩;obtain⟨dn,aLJ⟩:=Vb;have edn:IntKind.u8.wrap ((b:Int)-48)=(dn:Int):=by
    rw[show (b:Int)-48=(dn:Int) by omega,fp,Nat.mod_eq_of_lt (by omega)]
   have hdn:nP x=true->dn=dv x:=λ_=>by rw[YU,if_pos hA.2];exact aLJ.symm
   by_cases hd:dn<16
   ·have ed:decide ((dn:Int)>=16)=false:=decide_eq_false (by omega);have XX:IntKind.u64.wrap (dn:Int)=(dn:Int):=by rw[fo,Nat.mod_eq_of_lt (by omega)]
    have Eb:∃q,k+dn=q:=⟨_,rfl⟩;obtain⟨q,hq⟩:=Eb;have eq:IntKind.u64.wrap ((k:Int)+(dn:Int))=(q:Int):=by
     rw[show (k:Int)+(dn:Int)=(q:Int) by omega,fo,Nat.mod_eq_of_lt (by omega)]
    have elt:decide ((q:Int)<(k:Int))=false:=decide_eq_false (by omega);have QY:(∀b∈s,nP b=true)->jH s<4294967296->q=jH (s.take (i+1)):=λh1 h2=>by
     have:=hv h1 h2;have h3:=hdn (Ed h1);rw[hxt,FW,<-this,<-h3];omega
    by_cases hr:q<=mx
    ·have N0:decide ((q:Int)>(mx:Int))=false:=decide_eq_false (by omega);push_cast -dsimp(maxSteps:=9^7) [cx,ed,tH,e16,aB9,ek,XX,eq,elt,N0,ef,SL,e1,e2,edn];exact⟨⟨by omega,by omega⟩,⟨i+1,q,rfl,rfl,by omega,hr,QY,bS,lr⟩,by rw[aGx];simp only[intOf];omega⟩
    have N0:decide ((q:Int)>(mx:Int))=true:=decide_eq_true (by omega);push_cast -dsimp(maxSteps:=9^7) [cx,ed,tH,e16,aB9,ek,XX,eq,elt,N0,ef,SL,e1,e2,edn];refine⟨⟨mx,_,rfl,by omega,.inr (.inl rfl),λn hn h=>?_⟩,bS⟩;have h1:=QY (by rw[h];exact gJ hn) (by rw[h,jt hn];exact hn);have h2:=FX s (i+1);have h3:=jt hn;rw[<-h]at h3;omega
   have ed:decide ((dn:Int)>=16)=true:=decide_eq_true (by omega);push_cast -dsimp(maxSteps:=9^7) [cx,ed,e16,ef,SL,e1,e2,edn];refine⟨⟨0,_,rfl,by omega,.inr (.inr rfl),λn hn h=>?_⟩,bS⟩;have h3:=hdn (Ed (by rw[h];exact gJ hn));have h4:=Ed (by rw[h];exact gJ hn);rw[Kc,Bool.or_eq_true,Bool.and_eq_true,Bool.and_eq_true,decide_eq_true_eq,decide_eq_true_eq,decide_eq_true_eq,decide_eq_true_eq]at h4;rw[YU]at h3;split at h3<;>omega
  by_cases hB:97<=lo/\lo<=122
  ·have SL:decide ((b:Int)=95)=false:=decide_eq_false (λh=>by have:=EB (by omega);omega);have e1:decide (48<=(b:Int))=true:=decide_eq_true (Classical.byContradiction λh=>by have:=QX (by omega);omega);have e2:decide ((b:Int)<=57)=false:=decide_eq_false (λh=>hA ⟨Classical.byContradiction λh=>by have:=QX (by omega);omega,by omega⟩);have e3:decide (97<=(lo:Int))=true:=decide_eq_true (by omega);have e4:decide ((lo:Int)<=122)=true:=decide_eq_true (by omega);have Vb:∃dn:Nat,lo-87=dn:=⟨_,rfl⟩;obtain⟨dn,aLJ⟩:=Vb;have aP9:∃l2:Nat,lo-97=l2:=⟨_,rfl⟩;obtain⟨l2,aWi⟩:=aP9;have edn:IntKind.u8.wrap ((lo:Int)-97)=(l2:Int):=by
    rw[show (lo:Int)-97=(l2:Int) by omega,fp,Nat.mod_eq_of_lt (by omega)]
   have aGl:IntKind.u8.wrap ((l2:Int)+10)=(dn:Int):=by
    rw[show (l2:Int)+10=(dn:Int) by omega,fp,Nat.mod_eq_of_lt (by omega)]
   have hdn:nP x=true->dn=dv x:=λh=>by
    rw[Kc,Bool.or_eq_true,Bool.and_eq_true,Bool.and_eq_true,decide_eq_true_eq,decide_eq_true_eq,decide_eq_true_eq,decide_eq_true_eq]at h;have h5:=oX (by omega) (by omega);rw[YU,if_neg (by omega)];omega
   push_cast -dsimp(maxSteps:=9^7) [cx,SL,e1,e2,ef];refine aA (mX (b:Int) wx) ?_;rintro _ w2 ⟨rfl,rfl⟩;rw[hl];push_cast -dsimp(maxSteps:=9^7) [e3,ef];refine aA (mX (b:Int) w2) ?_;rintro _ w3 ⟨rfl,rfl⟩;rw[hl];push_cast -dsimp(maxSteps:=9^7) [e4,ef];refine aA (mX (b:Int) w3) ?_;rintro _ w4 ⟨rfl,rfl⟩;rw[hl];by_cases hd:dn<16
   ·have ed:decide ((dn:Int)>=16)=false:=decide_eq_false (by omega);have XX:IntKind.u64.wrap (dn:Int)=(dn:Int):=by rw[fo,Nat.mod_eq_of_lt (by omega)]
    have Eb:∃q,k+dn=q:=⟨_,rfl⟩;obtain⟨q,hq⟩:=Eb;have eq:IntKind.u64.wrap ((k:Int)+(dn:Int))=(q:Int):=by
     rw[show (k:Int)+(dn:Int)=(q:Int) by omega,fo,Nat.mod_eq_of_lt (by omega)]
    have elt:decide ((q:Int)<(k:Int))=false:=decide_eq_false (by omega);have QY:(∀b∈s,nP b=true)->jH s<4294967296->q=jH (s.take (i+1)):=λh1 h2=>by
     have:=hv h1 h2;have h3:=hdn (Ed h1);rw[hxt,FW,<-this,<-h3];omega
    by_cases hr:q<=mx
    ·have N0:decide ((q:Int)>(mx:Int))=false:=decide_eq_false (by omega);push_cast -dsimp(maxSteps:=9^7) [cx,ed,tH,e16,aB9,ek,XX,eq,elt,N0,ef,edn,aGl];exact⟨⟨by omega,by omega⟩,⟨i+1,q,rfl,rfl,by omega,hr,QY,bS,lr⟩,by rw[aGx];simp only[intOf];omega⟩
    have N0:decide ((q:Int)>(mx:Int))=true:=decide_eq_true (by omega);push_cast -dsimp(maxSteps:=9^7) [cx,ed,tH,e16,aB9,ek,XX,eq,elt,N0,ef,edn,aGl];refine⟨⟨mx,_,rfl,by omega,.inr (.inl rfl),λn hn h=>?_⟩,bS⟩;have h1:=QY (by rw[h];exact gJ hn) (by rw[h,jt hn];exact hn);have h2:=FX s (i+1);have h3:=jt hn;rw[<-h]at h3;omega
   have ed:decide ((dn:Int)>=16)=true:=decide_eq_true (by omega);push_cast -dsimp(maxSteps:=9^7) [cx,ed,e16,ef,edn,aGl];refine⟨⟨0,_,rfl,by omega,.inr (.inr rfl),λn hn h=>?_⟩,bS⟩;have h3:=hdn (Ed (by rw[h];exact gJ hn));have h4:=Ed (by rw[h];exact gJ hn);rw[Kc,Bool.or_eq_true,Bool.and_eq_true,Bool.and_eq_true,decide_eq_true_eq,decide_eq_true_eq,decide_eq_true_eq,decide_eq_true_eq]at h4;rw[YU]at h3;split at h3<;>omega
  by_cases h95:b=95
  ·have:=EB h95;have SL:decide ((b:Int)=95)=true:=decide_eq_true (by omega);have e1:decide (48<=(b:Int))=true:=decide_eq_true (by omega);have e2:decide ((b:Int)<=57)=false:=decide_eq_false (by omega);have e3:decide (97<=(lo:Int))=true:=decide_eq_true (by omega);have e4:decide ((lo:Int)<=122)=false:=decide_eq_false (by omega);push_cast -dsimp(maxSteps:=9^7) [cx,SL,e1,e2,ef];refine aA (mX (b:Int) wx) ?_;rintro _ w2 ⟨rfl,rfl⟩;rw[hl];push_cast -dsimp(maxSteps:=9^7) [e3,ef];refine aA (mX (b:Int) w2) ?_;rintro _ w3 ⟨rfl,rfl⟩;rw[hl];push_cast -dsimp(maxSteps:=9^7) [e4,ef];refine⟨⟨0,_,rfl,by omega,.inr (.inr rfl),λn hn h=>?_⟩,bS⟩
   have:=Ed (by rw[h];exact gJ hn);rw[Kc,Bool.or_eq_true,Bool.and_eq_true,Bool.and_eq_true,decide_eq_true_eq,decide_eq_true_eq,decide_eq_true_eq,decide_eq_true_eq]at this;omega
  rcases Nat.lt_or_ge b 48 with h48|h48
  ·have:=QX h48;have SL:decide ((b:Int)=95)=false:=decide_eq_false (by omega);have e1:decide (48<=(b:Int))=false:=decide_eq_false (by omega);have e2:decide ((b:Int)<=57)=true:=decide_eq_true (by omega);have e3:decide (97<=(lo:Int))=false:=decide_eq_false (by omega);push_cast -dsimp(maxSteps:=9^7) [cx,SL,e1,e2,ef];refine aA (mX (b:Int) wx) ?_;rintro _ w2 ⟨rfl,rfl⟩;rw[hl];push_cast -dsimp(maxSteps:=9^7) [e3,ef];refine⟨⟨0,_,rfl,by omega,.inr (.inr rfl),λn hn h=>?_⟩,bS⟩
   have:=Ed (by rw[h];exact gJ hn);rw[Kc,Bool.or_eq_true,Bool.and_eq_true,Bool.and_eq_true,decide_eq_true_eq,decide_eq_true_eq,decide_eq_true_eq,decide_eq_true_eq]at this;omega
  rcases Nat.lt_or_ge lo 97 with h97|h97
  ·skip;have SL:decide ((b:Int)=95)=false:=decide_eq_false (by omega);have e1:decide (48<=(b:Int))=true:=decide_eq_true (by omega);have e2:decide ((b:Int)<=57)=false:=decide_eq_false (by omega);have e3:decide (97<=(lo:Int))=false:=decide_eq_false (by omega);push_cast -dsimp(maxSteps:=9^7) [cx,SL,e1,e2,ef];refine aA (mX (b:Int) wx) ?_;rintro _ w2 ⟨rfl,rfl⟩;rw[hl];push_cast -dsimp(maxSteps:=9^7) [e3,ef];refine⟨⟨0,_,rfl,by omega,.inr (.inr rfl),λn hn h=>?_⟩,bS⟩
   have:=Ed (by rw[h];exact gJ hn);rw[Kc,Bool.or_eq_true,Bool.and_eq_true,Bool.and_eq_true,decide_eq_true_eq,decide_eq_true_eq,decide_eq_true_eq,decide_eq_true_eq]at this;omega
  skip;have SL:decide ((b:Int)=95)=false:=decide_eq_false (by omega);have e1:decide (48<=(b:Int))=true:=decide_eq_true (by omega);have e2:decide ((b:Int)<=57)=false:=decide_eq_false (by omega);have e3:decide (97<=(lo:Int))=true:=decide_eq_true (by omega);have e4:decide ((lo:Int)<=122)=false:=decide_eq_false (by omega);push_cast -dsimp(maxSteps:=9^7) [cx,SL,e1,e2,ef];refine aA (mX (b:Int) wx) ?_;rintro _ w2 ⟨rfl,rfl⟩;rw[hl];push_cast -dsimp(maxSteps:=9^7) [e3,ef];refine aA (mX (b:Int) w2) ?_;rintro _ w3 ⟨rfl,rfl⟩;rw[hl];push_cast -dsimp(maxSteps:=9^7) [e4,ef];refine⟨⟨0,_,rfl,by omega,.inr (.inr rfl),λn hn h=>?_⟩,bS⟩
  have:=Ed (by rw[h];exact gJ hn);rw[Kc,Bool.or_eq_true,Bool.and_eq_true,Bool.and_eq_true,decide_eq_true_eq,decide_eq_true_eq,decide_eq_true_eq,decide_eq_true_eq]at this;omega
 refine⟨⟨m,_,rfl,by omega,.inl rfl,λn hn h=>⟨?_,rfl⟩⟩,bS⟩
 have:=hv (by rw[h];exact gJ hn) (by rw[h,jt hn];exact hn);rw[this,List.take_of_length_le (by omega),h,jt hn]
end Go.Proofs.YtemjejfpadnljaaGreatDoor
namespace Cae
def dY (s:List UInt8)(l:List Rg):Prop:=aO (-2) l=true/\gx l=s
theorem Hq {n:Nat}(hn:n<4294967296){c:UInt8}(hc:nP c=false):(iJ n).contains c=false:=by
 cases h:(iJ n).contains c with
 | false=>rfl
 | true =>
  have hm:c∈iJ n:=by simpa using h
  have:=gJ hn c hm;rw[hc]at this;cases this
theorem pq (a b:List UInt8)(c:UInt8):(a++b).contains c=(a.contains c || b.contains c):=by
 induction a with
 | nil=>simp
 | cons x a ih=>rw[List.cons_append,List.contains_cons,List.contains_cons,ih,Bool.or_assoc]
theorem aIE {r:Rg}(h0:0<=r.1)(h1:r.1<4294967296)(h2:r.2<4294967296):(tS r).contains 32=false:=by
 unfold tS;rw[pq,Hq (by omega) (by rfl)];split
 ·rw[List.contains_cons,Hq (by omega) (by rfl)];rfl
 rfl
theorem aID (r:Rg):tS r≠[]:=by
 unfold tS;intro h;exact Ac _ (List.append_eq_nil_iff.1 h).1
theorem D9 {c:UInt8}:∀{a b:List UInt8},a.contains c=false->(a++c::b).takeWhile (· != c)=a/\(a++c::b).dropWhile (· != c)=c::b
 | [],b,_=>by simp
 | x::a,b,h=>by
  rw[List.contains_cons,Bool.or_eq_false_iff]at h;have h1:(x != c)=true:=by have:=h.1;simp at this;simp;exact λe=>this e.symm
  have ih:=D9 (b:=b) h.2;rw[List.cons_append,List.takeWhile_cons,List.dropWhile_cons,if_pos h1,if_pos h1,ih.1,ih.2];exact⟨rfl,rfl⟩
theorem aAO {c:UInt8}{a:List UInt8}(h:a.contains c=false):splitB c a=[a]:=by
 rw[tB,h,PK h];rfl
theorem Uw {c:UInt8}{a b:List UInt8}(h:a.contains c=false):splitB c (a++c::b)=a::splitB c b:=by
 rw[tB,(D9 h).1,(D9 h).2];have:(a++c::b).contains c=true:=by rw[pq];simp
 rw[if_pos this];rfl
theorem D5 {c:UInt8}:∀(x:List UInt8) (l:List (List UInt8)),(∀p∈x::l,p.contains c=false)->splitB c (Go.Lib.join (x::l) [c])=x::l
 | x,[],h=>by rw[Go.Lib.join_one];exact aAO (h x (by simp))
 | x,y::l,h=>by
  have e:Go.Lib.join (x::y::l) [c]=x++c::Go.Lib.join (y::l) [c]:=by
   rw[Go.Lib.join_cons,Go.Lib.join_cons];simp[Go.Lib.joinTail]
  rw[e,Uw (h x (by simp)),D5 y l (λp hp=>h p (List.mem_cons_of_mem _ hp))]
theorem NZ {r:Rg}(h0:0<=r.1)(h1:r.1<4294967296)(h2:r.2<4294967296)(aq:r.1<r.2):nC 45 (tS r)=(iJ r.1.toNat,iJ r.2.toNat,true):=by
 have hn:=Hq (n:=r.1.toNat) (c:=45) (by omega) (by rfl);have e:tS r=iJ r.1.toNat++45::iJ r.2.toNat:=by unfold tS;rw[if_pos aq]
 unfold nC;rw[e,(D9 hn).1,(D9 hn).2,pq];simp
theorem Gm {r:Rg}(h0:0<=r.1)(h1:r.1<4294967296)(aq:¬r.1<r.2):nC 45 (tS r)=(iJ r.1.toNat,[],false):=by
 have hn:=Hq (n:=r.1.toNat) (c:=45) (by omega) (by rfl);have e:tS r=iJ r.1.toNat:=by unfold tS;rw[if_neg aq,List.append_nil]
 unfold nC;rw[e,hn];rfl
theorem sg:∀{s:List Rg} {a:Int},-2<=a->aO a s=true->∀r∈s,0<=r.1/\r.1<=r.2/\r.2<=1114111
 | [],_,_,_=>λr hr=>by cases hr
 | q::s,a,ha,h=>by
  rw[cI]at h;intro r hr;rcases List.mem_cons.1 hr with rfl|hr
  ·omega
  exact sg (by omega) h.2 r hr
def mE (l:List Rg):List UInt8:=Go.Lib.join (l.map tS) [32]
theorem xg {l:List Rg}(h:mE l=[]):l=[]:=by
 cases l with
 | nil=>rfl
 | cons r l =>
  unfold mE at h;rw[List.map_cons,Go.Lib.join_cons]at h;exact absurd (List.append_eq_nil_iff.1 h).1 (aID r)
theorem ur {l:List Rg}(h:aO (-2) l=true)(cf:mE l≠[]):splitB 32 (mE l)=l.map tS:=by
 cases l with
 | nil=>exact absurd rfl cf
 | cons r l =>
  unfold mE;rw[List.map_cons];refine D5 _ _ λp hp=>?_;rw[<-List.map_cons]at hp;obtain⟨q,hq,rfl⟩:=List.mem_map.1 hp
  have:=sg (by omega) h q hq;exact aIE (by omega) (by omega) (by omega)
theorem so {s:List UInt8}{l:List Rg}(h:dY s l):Go.Lib.hasPrefix s [91]=true/\Go.Lib.hasSuffix (Go.Lib.trimPrefix s [91]) [93]=true/\Go.Lib.trimSuffix (Go.Lib.trimPrefix s [91]) [93]=mE l:=by
 obtain⟨hr,rfl⟩:=h;have h1:Go.Lib.hasPrefix (gx l) [91]=true:=by simp[Go.Lib.hasPrefix,gx]
 have h2:Go.Lib.trimPrefix (gx l) [91]=mE l++[93]:=by
  unfold Go.Lib.trimPrefix;rw[h1];rfl
 have h3:Go.Lib.hasSuffix (mE l++[93]) [93]=true:=by
  unfold Go.Lib.hasSuffix;rw[List.isSuffixOf_iff_suffix];exact⟨mE l,rfl⟩
 rw[h2];refine⟨h1,h3,?_⟩;unfold Go.Lib.trimSuffix;rw[h3,if_pos rfl];simp
theorem zY {body x:List UInt8}{pre:List (List UInt8)}{l:List Rg}(h:aO (-2) l=true)(hb:body=mE l)(cf:body≠[])(hp:pre++[x] <+: splitB 32 body):∃r,l[pre.length]?=some r/\x=tS r/\0<=r.1/\r.1<=r.2/\r.2<=1114111:=by
 subst hb;rw[ur h cf]at hp;obtain⟨rest,hr⟩:=hp;have h1:(l.map tS)[pre.length]?=some x:=by rw[<-hr,List.append_assoc];simp
 rw[List.getElem?_map]at h1;cases hl:l[pre.length]? with
 | none=>rw[hl]at h1;cases h1
 | some r =>
  rw[hl]at h1;cases h1;exact⟨r,rfl,rfl,sg (by omega) h r (List.mem_of_getElem? hl)⟩
structure Tok where
 kind:Nat
 text:List UInt8
 pos:Nat
 deriving DecidableEq
inductive bB where
 | lit (pos:Nat) (s:List Rg)
 | ref (pos:Nat) (name:List UInt8)
 | not (pos:Nat) (l:bB)
 | bin (code:Nat) (pos:Nat) (l r:bB)
inductive aG where
 | one (k:bB)
 | any
 | gh
 | cat (l:List aG)
 | alt (l:List aG)
 | many (x:aG) (lo hi:Int)
structure cQ where
 pos:Nat
 brk:Bool
 before:aG
 after:aG
structure fT where
 name:List UInt8
 pos:Nat
 kind:bB
structure dX where
 cT:List fT
 rules:List cQ
 els:Bool
def jv (c:UInt8):Bool:=decide (97<=c.toNat) && decide (c.toNat<=122)
def e9 (c:UInt8):Bool:=decide (48<=c.toNat) && decide (c.toNat<=57)
def LI:List UInt8:=[61,59,58,124,38,45,126,40,41,46,42,43,63,123,125,44,36]
def kr (f:UInt8->Bool)(s:List UInt8):Nat:=(s.takeWhile f).length
def iM (s:List UInt8):Nat×Nat :=
 let c:=s.headD 0
 if jv c then (1,kr (λc=>jv c || e9 c) s)
 else if e9 c then (2,kr e9 s)
 else if c=91 then (3,if s.contains 93 then kr (· != 93) s+1 else 0)
 else if LI.contains c then (4,1)
 else (4,0)
def mc:Nat->Nat->List UInt8->List Tok->Except (Nat×Nat) (List Tok)
 | 0,i,s,acc=>.error (0,0)
 | n+1,i,[],acc=>.ok (acc++[⟨5,[],i⟩])
 | n+1,i,c::r,acc =>
  if c=32\/c=10 then mc n (i+1) r acc
  else if c=35 then mc n (i+kr (· != 10) (c::r)) ((c::r).drop (kr (· != 10) (c::r))) acc
  else if (iM (c::r)).2=0 then .error (3,i)
  else if acc.length=500 then .error (4,i)
  else mc n (i+(iM (c::r)).2) ((c::r).drop (iM (c::r)).2) (acc++[⟨(iM (c::r)).1,(c::r).take (iM (c::r)).2,i⟩])
def VA (s:List UInt8):Except (Nat×Nat) (List Tok):=mc (s.length+1) 0 s []
def Is (s:List UInt8):Option (List Rg) :=
 let body:=(s.drop 1).dropLast
 let l:List Rg:=if body=[] then [] else (splitB 32 body).map λp=>(((jH (nC 45 p).1:Nat):Int),if (nC 45 p).2.2 then ((jH (nC 45 p).2.1:Nat):Int) else ((jH (nC 45 p).1:Nat):Int))
 if aO (-2) l && gx l == s then some l else none
abbrev Pa (α:Type):=List Tok->Except (Nat×Nat) (α×List Tok)
def hd (l:List Tok):Tok:=l.headD ⟨5,[],0⟩
def pb {α β:Type}(p:Pa α)(q:α->Pa β):Pa β:=λl=>match p l with
 | .error e=>.error e
 | .ok (x,l')=>q x l'
def pr {α:Type}(x:α):Pa α:=λl=>.ok (x,l)
def eJ {α:Type}(e:Nat):Pa α:=λl=>.error (e,(hd l).pos)
def bE {α:Type}(c:List Tok->Bool)(p q:Pa α):Pa α:=λl=>if c l then p l else q l
def dr:Pa Tok:=λl=>.ok (hd l,l)
def cZ:Pa Unit:=λl=>match l with
 | []=>.error (0,0)
 | t::r=>if t.kind=5 then .error (0,0) else .ok ((),r)
def isKind (k:Nat)(l:List Tok):Bool:=(hd l).kind == k
def dm (s:List UInt8)(l:List Tok):Bool:=(hd l).kind != 5 && (hd l).text == s
def dM (s:List UInt8):Pa Unit:=bE (dm s) cZ (eJ 3)
def CS (s:List UInt8):Bool:=s == [99,108,97,115,115] || s == [98,114,101,97,107] || s == [107,101,101,112] || s == [101,108,115,101]
def jw (l:List Tok):Bool:=(hd l).kind == 1 && !CS (hd l).text
def Fj (l:List Tok):Bool:=decide (10<(hd l).text.length)
def nS:Pa (List UInt8):=bE jw (bE Fj (eJ 4) (pb dr λt=>pb cZ λ_=>pr t.text)) (eJ 3)
def vN:Pa Nat:=bE (dm [124]) (pb cZ λ_=>pr 3) (bE (dm [38]) (pb cZ λ_=>pr 4) (bE (dm [45]) (pb cZ λ_=>pr 5) (pr 0)))
def de (one:Pa bB)(pos:Nat):Nat->bB->Pa bB
 | 0,k=>eJ 0
 | n+1,k=>pb vN λc=>if c=0 then pr k else pb one λr=>de one pos n (.bin c pos k r)
def th (one:Pa bB):Pa bB:=pb dr λt=>pb one λk=>de one t.pos 1000 k
def IL:Pa bB:=pb dr λt=>match Is t.text with
 | none=>eJ 3
 | some s=>pb cZ λ_=>pr (.lit t.pos s)
def mA:Nat->Pa bB
 | 0=>eJ 4
 | d+1=>bE (isKind 3) IL (bE (dm [126]) (pb dr λt=>pb cZ λ_=>pb (mA d) λk=>pr (.not t.pos k))
  (bE (dm [40]) (pb cZ λ_=>pb (th (mA d)) λk=>pb (dM [41]) λ_=>pr k)
   (pb dr λt=>pb nS λn=>pr (.ref t.pos n))))
def rh (d:Nat):Pa bB:=th (mA d)
def AG (s:List UInt8):Nat:=s.foldl (λm b=>10*m+(b.toNat-48)) 0
def kD:Pa Nat:=bE (isKind 2) (pb dr λt=>if 12<AG t.text then eJ 4 else pb cZ λ_=>pr (AG t.text)) (eJ 3)
def dR:Pa (Int×Int):=pb kD λlo=>bE (dm [44])
 (pb cZ λ_=>bE (isKind 2)
  (pb kD λhi=>if hi<lo then eJ 2 else pb (dM [125]) λ_=>pr ((lo:Int),(hi:Int)))
  (pb (dM [125]) λ_=>pr ((lo:Int),-1)))
 (pb (dM [125]) λ_=>pr ((lo:Int),(lo:Int)))
def eY:Pa (Option (Int×Int)) :=
 bE (dm [42]) (pb cZ λ_=>pr (some (0,-1)))
 (bE (dm [43]) (pb cZ λ_=>pr (some (1,-1)))
 (bE (dm [63]) (pb cZ λ_=>pr (some (0,1)))
 (bE (dm [123]) (pb cZ λ_=>pb dR λr=>pr (some r)) (pr none))))
def bl (d:Nat):Nat->Nat->aG->Pa aG
 | 0,c,x=>eJ 0
 | n+1,c,x=>pb eY λr=>match r with
  | none=>pr x
  | some q=>if d<=c+1 then eJ 4 else bl d n (c+1) (.many x q.1 q.2)
def aZ (d:Nat)(unit:Pa aG):Pa aG:=pb unit λx=>bl d 1000 0 x
def mB (l:List Tok):Bool:=isKind 3 l || jw l || dm [46] l || dm [36] l || dm [40] l
def bN (again:Pa aG):Nat->List aG->Pa (List aG)
 | 0,acc=>eJ 0
 | n+1,acc=>bE mB (pb again λx=>bN again n (acc++[x])) (pr acc)
def rowOf:List aG->aG
 | [x]=>x
 | l=>.cat l
def jj:List aG->aG
 | [x]=>x
 | l=>.alt l
def iw (again:Pa aG):Pa aG:=pb (bN again 1000 []) λps=>pr (rowOf ps)
def fB (row:Pa aG):Nat->List aG->Pa (List aG)
 | 0,acc=>eJ 0
 | n+1,acc=>bE (dm [124]) (pb cZ λ_=>pb row λx=>fB row n (acc++[x])) (pr acc)
def ND (row:Pa aG):Pa aG:=pb row λx=>pb (fB row 1000 [x]) λps=>pr (jj ps)
def DD (d:Nat)(unit:Pa aG):Pa aG:=if d=0 then eJ 4 else ND (iw (aZ d unit))
def jb (l:List Tok):Bool:=isKind 3 l || jw l
def ax:Nat->Pa aG
 | 0=>eJ 4
 | d+1=>bE (dm [46]) (pb cZ λ_=>pr .any)
  (bE (dm [36]) (pb cZ λ_=>pr .gh)
  (bE (dm [40]) (pb cZ λ_=>pb (DD d (ax d)) λx=>pb (dM [41]) λ_=>pr x)
  (bE jb (pb (mA (d+1)) λk=>pr (.one k)) (eJ 3))))
def ry (d:Nat):Pa aG:=DD d (ax d)
def oO:Pa fT:=pb dr λt=>pb (dM [99,108,97,115,115]) λ_=>pb nS λn=>pb (dM [61]) λ_=>pb (rh 9) λk=>pb (dM [59]) λ_=>pr ⟨n,t.pos,k⟩
def ba:Nat->List fT->Pa (List fT)
 | 0,acc=>eJ 0
 | n+1,acc=>bE (dm [99,108,97,115,115]) (if acc.length=20 then eJ 4 else pb oO λc=>ba n (acc++[c])) (pr acc)
def iA:Pa Bool:=bE (dm [98,114,101,97,107]) (pb cZ λ_=>pr true) (pb (dM [107,101,101,112]) λ_=>pr false)
def mM:Pa cQ:=pb dr λt=>pb iA λb=>pb (ry 9) λx=>pb (dM [58]) λ_=>pb (ry 9) λy=>pb (dM [59]) λ_=>pr ⟨t.pos,b,x,y⟩
def ie (l:List Tok):Bool:=dm [98,114,101,97,107] l || dm [107,101,101,112] l
def b8:Nat->List cQ->Pa (List cQ)
 | 0,acc=>eJ 0
 | n+1,acc=>bE ie (if acc.length=20 then eJ 4 else pb mM λr=>b8 n (acc++[r])) (pr acc)
def oy:Pa Bool:=bE (dm [101,108,115,101]) (pb cZ λ_=>pb iA λb=>pb (dM [59]) λ_=>pr b) (pr true)
def j4:Pa dX:=pb (ba 1000 []) λcs=>pb (b8 1000 []) λrs=>pb oy λb=>pr ⟨cs,rs,b⟩
def dy (s:List UInt8):Except (Nat×Nat) dX:=match VA s with
 | .error e=>.error e
 | .ok l=>match j4 l with
  | .error e=>.error e
  | .ok (f,l')=>if isKind 5 l' then .ok f else .error (3,(hd l').pos)
def fH:bB->Bool->List UInt8
 | .lit _ s,_=>gx s
 | .ref _ n,_=>n
 | .not _ l,_=>126::fH l true
 | .bin c _ l r,alone =>
  let m:List UInt8:=if c=3 then [32,124,32] else if c=4 then [32,38,32] else [32,45,32]
  let s:=fH l false++m++fH r true
  if alone then 40::(s++[41]) else s
def SI (n:Nat):List UInt8:=if n<10 then [SJ n] else if n<100 then [SJ (n / 10),SJ (n % 10)] else []
def yX (lo hi:Int):List UInt8 :=
 if lo=0/\hi<0 then [42] else if lo=1/\hi<0 then [43] else if lo=0/\hi=1 then [63]
 else if hi<0 then 123::(SI lo.toNat++[44,125])
 else if hi=lo then 123::(SI lo.toNat++[125])
 else 123::(SI lo.toNat++44::(SI hi.toNat++[125]))
def r8 (b:Bool)(s:List UInt8):List UInt8:=if b then 40::(s++[41]) else s
mutual
def ai:aG->Nat->List UInt8
 | .one k,_=>fH k true
 | .any,_=>[46]
 | .gh,_=>[36]
 | .cat l,least=>r8 (decide (1<least)) (Go.Lib.join (bG l 2) [32])
 | .alt l,least=>r8 (decide (0<least)) (Go.Lib.join (bG l 1) [32,124,32])
 | .many x lo hi,_=>ai x 2++yX lo hi
def bG:List aG->Nat->List (List UInt8)
 | [],_=>[]
 | x::l,least=>ai x least::bG l least
end
def xh (c:fT):List UInt8:=[99,108,97,115,115,32]++c.name++[32,61,32]++fH c.kind false++[59,10]
def gO (r:cQ):List UInt8 :=
 (if r.brk then [98,114,101,97,107,32] else [107,101,101,112,32])
  ++ (if ai r.before 0=[] then [] else ai r.before 0++[32])++[58]++(if ai r.after 0=[] then [] else 32::ai r.after 0)++[59,10]
def vW (b:Bool):List UInt8:=if b then [] else [101,108,115,101,32,107,101,101,112,59,10]
def nH (f:dX):List UInt8:=(f.cT.flatMap xh)++(f.rules.flatMap gO)++vW f.els
def fS (az:List Int)(back:Bool)(i:Nat):Option (Nat×Int) :=
 if back then (if i=0 then none else (az[i-1]?).map λp=>(i-1,p)) else (az[i]?).map λp=>(i+1,p)
def iterM (R:Nat->Nat->Prop):Nat->Nat->Nat->Prop
 | 0,i,j=>i=j
 | n+1,i,j=>∃m,R i m/\iterM R n m j
section
variable (has:bB->Int->Prop) (az:List Int) (back:Bool)
mutual
def fG:aG->Nat->Nat->Prop
 | .one k,i,j=>∃p,fS az back i=some (j,p)/\has k p
 | .any,i,j=>∃p,fS az back i=some (j,p)
 | .gh,i,j=>i=j/\fS az back i=none
 | .cat l,i,j=>if back then tz l i j else oL l i j
 | .alt l,i,j=>xd l i j
 | .many x lo hi,i,j=>∃n:Nat,lo<=n/\(hi<0\/(n:Int)<=hi)/\iterM (λa b=>fG x a b) n i j
def oL:List aG->Nat->Nat->Prop
 | [],i,j=>i=j
 | x::l,i,j=>∃m,fG x i m/\oL l m j
def tz:List aG->Nat->Nat->Prop
 | [],i,j=>i=j
 | x::l,i,j=>∃m,tz l i m/\fG x m j
def xd:List aG->Nat->Nat->Prop
 | [],_,_=>False
 | x::l,i,j=>fG x i j\/xd l i j
end
end
section
variable {has:bB->Int->Prop} {az:List Int} {back:Bool}
theorem aEd {l:List aG}{i j:Nat}:fG has az back (.cat l) i j↔(if back then tz has az back l i j else oL has az back l i j):=by simp only[fG]
theorem xH {x:aG}{lo hi:Int}{i j:Nat}:fG has az back (.many x lo hi) i j↔∃n:Nat,lo<=n/\(hi<0\/(n:Int)<=hi)/\iterM (fG has az back x) n i j:=by simp only[fG]
theorem aAh {l m:List aG}{i j:Nat}:oL has az back (l++m) i j↔∃k,oL has az back l i k/\oL has az back m k j:=by
 induction l generalizing i with
 | nil=>simp[oL]
 | cons x l ih =>
  simp only[List.cons_append,oL];constructor
  ·rintro⟨a,h1,h2⟩;obtain⟨k,h3,h4⟩:=ih.1 h2;exact⟨k,⟨a,h1,h3⟩,h4⟩
  rintro⟨k,⟨a,h1,h3⟩,h4⟩;exact⟨a,h1,ih.2 ⟨k,h3,h4⟩⟩
theorem aAg {l:List aG}{i j:Nat}:xd has az back l i j↔∃x∈l,fG has az back x i j:=by
 induction l with
 | nil=>simp[xd]
 | cons x l ih=>simp[xd,ih]
theorem kU {R:Nat->Nat->Prop}:∀{n i j:Nat},iterM R (n+1) i j↔∃m,iterM R n i m/\R m j
 | 0,i,j=>by simp[iterM]
 | n+1,i,j=>by
  constructor
  ·rintro⟨a,h1,h2⟩;obtain⟨b,h3,h4⟩:=kU.1 h2;exact⟨b,⟨a,h1,h3⟩,h4⟩
  rintro⟨b,⟨a,h1,h3⟩,h4⟩;exact⟨a,h1,kU.2 ⟨b,h3,h4⟩⟩
theorem pV {i j:Nat}{p:Int}(h:fS az back i=some (j,p))(hi:i<=az.length):j<=az.length:=by
 unfold fS at h;split at h
 ·split at h
  ·cases h
  cases hp:az[i-1]? with
  | none=>rw[hp]at h;cases h
  | some q=>rw[hp]at h;cases h;omega
 cases hp:az[i]? with
 | none=>rw[hp]at h;cases h
 | some q =>
  rw[hp]at h;cases h
  have:=(List.getElem?_eq_some_iff.1 hp).1;omega
theorem wL {R:Nat->Nat->Prop}{N:Nat}(h:∀i j,i<=N->R i j->j<=N):∀{n i j:Nat},i<=N->iterM R n i j->j<=N
 | 0,_,_,hi,e=>by cases e;exact hi
 | n+1,_,_,hi,⟨m,h1,h2⟩=>wL h (h _ _ hi h1) h2
mutual
theorem sB:∀(x:aG) {i j:Nat},i<=az.length->fG has az back x i j->j<=az.length
 | .one k,i,j,hi,h=>by simp only[fG]at h;obtain⟨p,h,_⟩:=h;exact pV h hi
 | .any,i,j,hi,h=>by simp only[fG]at h;obtain⟨p,h⟩:=h;exact pV h hi
 | .gh,i,j,hi,h=>by simp only[fG]at h;omega
 | .cat l,i,j,hi,h=>by
  simp only[fG]at h;split at h
  ·exact Am l hi h
  exact Ig l hi h
 | .alt l,i,j,hi,h=>by simp only[fG]at h;exact RB l hi h
 | .many x lo AS,i,j,hi,h=>by
  simp only[fG]at h;obtain⟨n,_,_,h⟩:=h;exact wL (λa b ha hr=>sB x ha hr) hi h
theorem Ig:∀(l:List aG) {i j:Nat},i<=az.length->oL has az back l i j->j<=az.length
 | [],i,j,hi,h=>by simp only[oL]at h;omega
 | x::l,i,j,hi,h=>by simp only[oL]at h;obtain⟨m,h1,h2⟩:=h;exact Ig l (sB x hi h1) h2
theorem Am:∀(l:List aG) {i j:Nat},i<=az.length->tz has az back l i j->j<=az.length
 | [],i,j,hi,h=>by simp only[tz]at h;omega
 | x::l,i,j,hi,h=>by simp only[tz]at h;obtain⟨m,h1,h2⟩:=h;exact sB x (Am l hi h1) h2
theorem RB:∀(l:List aG) {i j:Nat},i<=az.length->xd has az back l i j->j<=az.length
 | [],i,j,hi,h=>by simp only[xd]at h
 | x::l,i,j,hi,h=>by
  simp only[xd]at h;rcases h with h|h
  ·exact sB x hi h
  exact RB l hi h
end
end
mutual
def aMN:aG->aG
 | .one k=>.one k
 | .any=>.any
 | .gh=>.gh
 | .cat l=>.cat (ZX l).reverse
 | .alt l=>.alt (ZX l)
 | .many x lo hi=>.many (aMN x) lo hi
def ZX:List aG->List aG
 | []=>[]
 | x::l=>aMN x::ZX l
end
open Classical
section
variable (has:bB->Int->Prop) (az:List Int)
def ma (x:aG)(i:Nat)(back:Bool):Prop:=∃j,fG has az back x i j
def u5 (r:cQ)(i:Nat):Prop:=ma has az r.before i true/\ma has az r.after i false
noncomputable def oG (els:Bool)(i:Nat):List cQ->Bool
 | []=>els
 | r::l=>if u5 has az r i then r.brk else oG els i l
noncomputable def Q8 (rules:List cQ)(els:Bool)(i:Nat):Bool:=oG has az els i rules || decide (i=0) || decide (i=az.length)
noncomputable def mT (rules:List cQ)(els:Bool):List Nat:=if az=[] then [] else (List.range (az.length+1)).filter (Q8 has az rules els)
end
end Cae
