/- Texts of this claim, merged: Vo, Vw, So0, Hex, EncN, Join, Sprint, Cut, Byt, Pint, Ppar, Prul, Pmean, Pmean2. -/
import Derived.Test.YtemjejfpadnljaaGreatDoorM3
import Derived.Shelf.Strings.OnBuilder
import Derived.Shelf.Strings.Search3
import Derived.Shelf.Small.Wraps
import Derived.Lib.IfaceEq
import Derived.Lib.IfaceNeq
set_option maxRecDepth 100000
set_option linter.unusedSimpArgs false
set_option linter.unusedVariables false
set_option maxHeartbeats 8000000
namespace Go.Vc
open Go.RowKit
theorem aMk {L:VP}{other:Prop}(c:Bool)(n k n' k':Nat)(p):cG 3 c .eql (.slice none n k) (.slice none n' k') L other p=L (.bool true):=by cases c<;>rfl
theorem aIm {L:VP}{other:Prop}(c:Bool)(a:Addr)(n k n' k':Nat)(p):cG 3 c .eql (.slice (some a) n k) (.slice none n' k') L other p=L (.bool false):=by cases c<;>rfl
theorem qp {α β:Type}{w:World}{base Nh k k':Nat}{e e':TypeId}{enc:α->List Value}{aMj:β->List Value}{v v':Value}{l:List α}{l':List β}(h:Vc.Own base e k enc w v l)(h':Vc.Own Nh e' k' aMj w v' l')(cY:e≠e'):∀g,v.ownBlock=some g->v'.ownBlock≠some g:=λg hg CP=>by
 rcases h.1.2 with ⟨he,_⟩|⟨g1,cap,cur,he,_,h1,_⟩
 ·rw[he]at hg;cases hg
 rcases h'.1.2 with ⟨OD,_⟩|⟨g2,aSe,QJ,OD,_,h2,_⟩
 ·rw[OD]at CP;cases CP
 rw[he]at hg;rw[OD]at CP;have e1:g1=g:=by simpa[Value.ownBlock] using hg
 have e2:g2=g:=by simpa[Value.ownBlock] using CP
 subst e1 e2;rw[h1]at h2;cases h2;exact cY rfl
theorem aKW {α:Type}{f:α->Value}{w:World}{b c n:Nat}{e:TypeId}{l:List α}(hB:aM w b e (l.map f))(hn:n=l.length)(hc:l.length<=c):Sl (λ_=>False) 1 (En (λx=>[f x])) w (.slice (some ⟨b,0,none⟩) n c) l:=by
 subst hn;refine⟨_,_,rfl,hc,λi x hx=>⟨b,0,[f x],rfl,id,rfl,λj u hu=>?_,rfl⟩⟩;cases j with
 | zero =>
  simp at hu;subst hu;rw[Nat.mul_one,Nat.add_zero,Nat.zero_add];exact hB.cell (by rw[List.getElem?_map,hx];rfl)
 | succ j=>simp at hu
theorem El {α:Type}[DecidableEq α][BEq α][LawfulBEq α](a b:α):(a == b)=decide (a=b):=by
 by_cases h:a=b
 ·subst h;simp
 rw[decide_eq_false h];exact beq_eq_false_iff_ne.2 h
theorem Ni (a b:List UInt8):((⟨a.toArray⟩:ByteArray) == ⟨b.toArray⟩)=decide (a=b):=by
 show (a.toArray == b.toArray)=_
 rw[List.beq_toArray];exact El a b
section
set_option linter.unusedSectionVars false
variable {P:Program} {α:Type} [DecidableEq α]
structure th (P:Program)(kt:TypeId)(key:α->Value):Prop where
 und:∃d,P.underlying kt=some d/\∀a b,Instr.sameNow d (key a) (key b)=some (decide (a=b))
 bits:∀n a,Instr.sameBits n (key a) (key a)=true
 check:∀em n a w,(Instr.checkKey em (n+1) kt (key a)).run P w=.ok () w
theorem M5 {kt:TypeId}(hk:P.underlying kt=some (.int .i64)):th P kt (λn:Nat=>Value.int .i64 (n:Int)) where
 und:=⟨_,hk,λa b=>by simp only[Instr.sameNow,if_true,Option.some.injEq];rw[El,decide_eq_decide];exact Int.ofNat_inj⟩
 bits:=λn a=>by cases n<;>simp[Instr.sameBits]
 check:=λem n a w=>by simp[Instr.checkKey,run_underlying hk]
theorem nf {kt:TypeId}(hk:P.underlying kt=some .string):th P kt (λl:List UInt8=>str l) where
 und:=⟨_,hk,λa b=>by
  simp only[str,Instr.sameNow,Option.some.injEq];exact Ni a b⟩
 bits:=λn a=>by have:=(Ni a a).trans (decide_eq_true rfl);cases n<;>simpa[str,Instr.sameBits] using this
 check:=λem n a w=>by simp[str,Instr.checkKey,run_underlying hk]
def mi (key:α->Value)(w:World)(b:Nat)(gb:List (α×Value)):Prop :=
 ∃(es:Array MapEntry) (clock:Nat),w.heap[b]?=some (.map es clock)/\(es.toList.map λe=>(e.key,e.val))=gb.map λp=>(key p.1,p.2)
def eA (k:α):List (α×Value)->Option Value
 | []=>none
 | p::r=>if k=p.1 then some p.2 else eA k r
def DS (k:α)(v:Value):List (α×Value)->List (α×Value)
 | []=>[(k,v)]
 | p::r=>if k=p.1 then (p.1,v)::r else p::DS k v r
variable {key:α->Value}
theorem mi.kept {X:Nat->Prop}{w w':World}{b:Nat}{gb:List (α×Value)}(h:mi key w b gb)(hk:Kept X w w')(hX:¬X b):mi key w' b gb:=by
 obtain⟨es,clock,h1,h2⟩:=h;exact⟨es,clock,(hk.block b (Array.getElem?_eq_some_iff.1 h1).1 hX).trans h1,h2⟩
theorem mi.lt {w:World}{b:Nat}{gb:List (α×Value)}(h:mi key w b gb):b<w.heap.size:=by
 obtain⟨es,clock,h1,h2⟩:=h;exact(Array.getElem?_eq_some_iff.1 h1).1
theorem mi.below {B:Nat}{w w':World}{b:Nat}{gb:List (α×Value)}(h:mi key w b gb)(hk:Below B w w')(hX:b<B):mi key w' b gb:=by
 obtain⟨es,clock,h1,h2⟩:=h;exact⟨es,clock,(hk.block b hX).trans h1,h2⟩
theorem vt {d:TypeDesc}(hd:∀a b,Instr.sameNow d (key a) (key b)=some (decide (a=b)))(k:α):∀(es:List MapEntry) (gb:List (α×Value)) (i:Nat),(es.map λe=>(e.key,e.val))=(gb.map λp=>(key p.1,p.2)) ->
  ∃r,Instr.findNow d (key k) es i=some r/\((∃j e u,r=some (j,u)/\i<=j/\es[j-i]?=some e/\e.key=key k/\eA k gb=some u/\∀v,(es.modify (j-i) (λe=>{ e with key:=key k,val:=v })).map (λe=>(e.key,e.val))=(DS k v gb).map λp=>(key p.1,p.2)) \/
   (r=none/\eA k gb=none/\∀v,DS k v gb=gb++[(k,v)]))
 | [],[],i,_=>⟨none,rfl,.inr ⟨rfl,rfl,λ_=>rfl⟩⟩
 | [],_::_,_,h=>by simp at h
 | _::_,[],_,h=>by simp at h
 | e::es,p::gb,i,h=>by
  simp only[List.map_cons,List.cons.injEq,Prod.mk.injEq]at h;obtain⟨⟨h1,h2⟩,h3⟩:=h;rw[Instr.findNow,h1,hd];by_cases hx:k=p.1
  ·rw[decide_eq_true hx];refine⟨some (i,e.val),rfl,.inl ⟨i,e,e.val,rfl,Nat.le_refl _,by simp,by rw[h1,hx],by rw[eA,if_pos hx,h2],λv=>?_⟩⟩;rw[Nat.sub_self,DS,if_pos hx];simp[h3,hx]
  rw[decide_eq_false hx];obtain⟨r,hr,hh⟩:=vt hd k es gb (i+1) h3;refine⟨r,hr,?_⟩;rcases hh with ⟨j,e',u,h4,h5,h6,h7,h8,h9⟩|⟨h4,h5,h6⟩
  ·refine .inl ⟨j,e',u,h4,by omega,?_,h7,by rw[eA,if_neg hx,h8],λv=>?_⟩
   ·rw[show j-i=(j-(i+1))+1 by omega]
    simpa using h6
   rw[show j-i=(j-(i+1))+1 by omega,DS,if_neg hx]
   simp only[List.modify_succ_cons,List.map_cons,h1,h2];rw[h9 v]
  exact .inr ⟨h4,by rw[eA,if_neg hx,h5],λv=>by rw[DS,if_neg hx,h6 v];rfl⟩
theorem J3 {mt kt et:TypeId}{w:World}{b:Nat}{gb:List (α×Value)}{z:Value}(hm:P.underlying mt=some (.map kt et))(hk:th P kt key)(hz:(P.info? et).bind (·.zero)=some z)(h:mi key w b gb)(k:α)(c:Bool) :
  (Instr.lookup mt (.map (some b)) (key k) c).run P w=.ok (if c then .tuple #[(eA k gb).getD z,.bool (eA k gb).isSome] else (eA k gb).getD z) w:=by
 obtain⟨es,clock,h1,h2⟩:=h;obtain⟨i,hi,hz⟩:=Option.bind_eq_some_iff.1 hz;obtain⟨d,hd,hs⟩:=hk.und;obtain⟨r,hr,hh⟩:=vt hs k es.toList gb 0 h2;have hck:(Instr.checkKey es.isEmpty 10000 kt (key k)).run P w=.ok () w:=hk.check _ 9999 k w;have hfk:(Instr.findKey kt (key k) es.toList).run P w=.ok r w:=by simp[Instr.findKey,run_underlying hd,hr]
 have Kw:(getObj b).run P w=.ok (.map es clock) w:=by simp[getObj,Sem.run,h1]
 rcases hh with ⟨j,e,u,rfl,_,_,_,ha,_⟩|⟨rfl,ha,_⟩
 ·simp[Instr.lookup,run_underlying hm,Kw,hck,hfk,ha]
 simp[Instr.lookup,run_underlying hm,Kw,hck,hfk,ha,zeroValue,typeInfo,hi,hz]
theorem Kb {mt kt et:TypeId}{w:World}{b:Nat}{gb:List (α×Value)}(hm:P.underlying mt=some (.map kt et))(hk:th P kt key)(h:mi key w b gb)(k:α)(v:Value) :
  ∃w',(Instr.mapUpdate mt (.map (some b)) (key k) v).run P w=.ok () w'/\mi key w' b (DS k v gb)/\Kept (·=b) w w'/\w'.heap.size=w.heap.size:=by
 obtain⟨es,clock,h1,h2⟩:=h;have ao:=(Array.getElem?_eq_some_iff.1 h1).1;obtain⟨d,hd,hs⟩:=hk.und;obtain⟨r,hr,hh⟩:=vt hs k es.toList gb 0 h2;have hck:(Instr.checkKey false 10000 kt (key k)).run P w=.ok () w:=hk.check _ 9999 k w;have hfk:(Instr.findKey kt (key k) es.toList).run P w=.ok r w:=by simp[Instr.findKey,run_underlying hd,hr]
 have Kw:(getObj b).run P w=.ok (.map es clock) w:=by simp[getObj,Sem.run,h1]
 have tD:∀o,(setObj b o).run P w=.ok () { w with heap:=w.heap.setIfInBounds b o }:=λo=>by simp[setObj,Sem.run,h1]
 have OL:∀o,Kept (·=b) w { w with heap:=w.heap.setIfInBounds b o }:=λo=>⟨rfl,rfl,rfl,by simp,λi hi cY=>by simp[Array.getElem?_setIfInBounds,Ne.symm cY]⟩;rcases hh with ⟨j,e,u,rfl,_,he,hek,ha,hp⟩|⟨rfl,ha,hp⟩
 ·have aNN:es[j]?=some e:=by simpa using he
  have aOe:(Instr.keyThatStays e.key (key k)).run P w=.ok (key k) w:=by
   have:Instr.sameBits 10000 e.key (key k)=true:=by rw[hek];exact hk.bits 10000 k
   simp only[Instr.keyThatStays,this,if_true];rfl
  refine⟨{ w with heap:=w.heap.setIfInBounds b (.map (es.modify j λe=>{ e with key:=key k,val:=v }) clock) },?_,⟨es.modify j λe=>{ e with key:=key k,val:=v },clock,?_,?_⟩,OL _,by simp⟩
  ·simp[Instr.mapUpdate,run_underlying hm,Kw,hck,hfk,aNN,aOe,tD]
  ·simp[ao]
  rw[<-hp v,Nat.sub_zero,Array.toList_modify]
 refine⟨{ w with heap:=w.heap.setIfInBounds b (.map (es.push { key:=key k,val:=v,born:=clock }) (clock+1)) },?_,⟨es.push { key:=key k,val:=v,born:=clock },clock+1,?_,?_⟩,OL _,by simp⟩
 ·simp[Instr.mapUpdate,run_underlying hm,Kw,hck,hfk,tD]
 ·simp[ao]
 rw[hp v];simp[h2]
theorem Gc {mt kt et:TypeId}{w:World}{b:Nat}{gb:List (α×Value)}{z:Value}{t:Fr}{K:VK}{Q:EP}{p}{c:Bool}{k:α}(hm:P.underlying mt=some (.map kt et))(hk:th P kt key)(hz:(P.info? et).bind (·.zero)=some z)(h:mi key w b gb)
  (kk:K (if c then .tuple #[(eA k gb).getD z,.bool (eA k gb).isSome] else (eA k gb).getD z) w):ai P (Instr.lookup mt (.map (some b)) (key k) c) t w K Q p:=fh (J3 hm hk hz h k c) kk
theorem aCS {mt kt et:TypeId}{w:World}{b:Nat}{gb:List (α×Value)}{t:Fr}{K:VK}{Q:EP}{k:α}{v:Value}(hm:P.underlying mt=some (.map kt et))(hk:th P kt key)(h:mi key w b gb)
  (kk:∀w',mi key w' b (DS k v gb)->Kept (·=b) w w'->w'.heap.size=w.heap.size->K undef w'):aX P (Instr.mapUpdate mt (.map (some b)) (key k) v) t w K Q .mk:=by
 obtain⟨w',hr,h1,h2,h3⟩:=Kb hm hk h k v;exact Br hr (kk w' h1 h2 h3)
theorem pK {mt kt et:TypeId}{w:World}{b:Nat}{gb:List (α×Value)}{z kv u:Value}{t:Fr}{K:VK}{Q:EP}{p}{k:α}(hm:P.underlying mt=some (.map kt et))(hk:th P kt key)(hz:(P.info? et).bind (·.zero)=some z)(h:mi key w b gb)(AS:kv=key k)(ha:eA k gb=some u)
  (kk:K (.tuple #[u,.bool true]) w):ai P (Instr.lookup mt (.map (some b)) kv true) t w K Q p:=by
 subst AS;refine Gc hm hk hz h ?_;rw[ha];exact kk
theorem pJ {mt kt et:TypeId}{w:World}{b:Nat}{gb:List (α×Value)}{z kv:Value}{t:Fr}{K:VK}{Q:EP}{p}{k:α}(hm:P.underlying mt=some (.map kt et))(hk:th P kt key)(hz:(P.info? et).bind (·.zero)=some z)(h:mi key w b gb)(AS:kv=key k)(ha:eA k gb=none)
  (kk:K (.tuple #[z,.bool false]) w):ai P (Instr.lookup mt (.map (some b)) kv true) t w K Q p:=by
 subst AS;refine Gc hm hk hz h ?_;rw[ha];exact kk
theorem EI {k:α}{v:Value}:∀{gb:List (α×Value)},eA k gb=none->DS k v gb=gb++[(k,v)]
 | [],_=>rfl
 | p::r,h=>by
  rw[eA]at h;split at h
  ·cases h
  rename_i cY;rw[DS,if_neg cY,EI h];rfl
theorem jH {mt kt et:TypeId}{w:World}{b:Nat}{gb:List (α×Value)}{t:Fr}{K:VK}{Q:EP}{k:α}{v kv:Value}(hm:P.underlying mt=some (.map kt et))(hk:th P kt key)(h:mi key w b gb)(AS:kv=key k)(ha:eA k gb=none)
  (kk:∀w',mi key w' b (gb++[(k,v)])->Kept (·=b) w w'->w'.heap.size=w.heap.size->K undef w'):aX P (Instr.mapUpdate mt (.map (some b)) kv v) t w K Q .mk:=by
 subst AS;refine aCS hm hk h ?_;rw[EI ha];exact kk
theorem Al {mt:TypeId}{w:World}{t:Fr}{K:VK}{Q:EP}{p}{key:α->Value}(kk:∀w',mi key w' w.heap.size []->Below w.heap.size w w'->w'.heap.size=w.heap.size+1->K (.map (some w.heap.size)) w'):ai P (Instr.makeMap mt none) t w K Q p :=
 fh (w':=w.alloc (.map #[] 0)) (v:=.map (some w.heap.size)) rfl (kk _ ⟨#[],0,heap_alloc_new w _,rfl⟩ ((Below.refl _ _).alloc (Nat.le_refl _) _) (by simp))
end
def nX (C D:World->Prop)(m:Nat)(listed:Array Bool):World->Prop:=λw=>(listed.getD m false=true->D w)/\(listed.getD m false=false->C w)
section
variable {P:Program} {ops:Array Oper} {C D:World->Prop}
theorem nA {m:Nat}{listed:Array Bool}(h:listed.getD m false=true):nX C D m listed=D:=funext λw=>propext ⟨λhh=>hh.1 h,λhh=>⟨λ_=>hh,λh'=>by rw[h]at h';cases h'⟩⟩
theorem mz {m:Nat}{listed:Array Bool}(h:listed.getD m false=false):nX C D m listed=C:=funext λw=>propext ⟨λhh=>hh.2 h,λhh=>⟨λh'=>(by rw[h]at h';cases h'),λ_=>hh⟩⟩
theorem tz (si:∀w,C w->D w){m:Nat}{listed:Array Bool}{w:World}(h:nX C D m listed w):D w:=by
 cases hm:listed.getD m false with
 | true=>exact h.1 hm
 | false=>exact si w (h.2 hm)
theorem vn (si:∀w,C w->D w){m i:Nat}{listed:Array Bool}{w:World}(h:nX C D m listed w):nX C D m (listed.setIfInBounds i true) w:=by
 cases hm:(listed.setIfInBounds i true).getD m false with
 | true=>rw[nA hm];exact tz si h
 | false =>
  rw[mz hm];refine h.2 ?_;cases hl:listed.getD m false with
  | false=>rfl
  | true=>rw[getD_set_true hl]at hm;cases hm
theorem SM {i:Nat}{o:Oper}{K:Act->World->Prop}{a:Act}{w:World}(hi:ops[i]?=some o)(hq:chain P o=false)(si:∀w,C w->D w)(h:bD P ops D i K a w):bD P ops C i K a w:=by
 cases hw:Region.wanted o (yielded ops a.tmps) with
 | false=>rw[cf hi hw]at h ⊢;exact h
 | true =>
  rw[bM hi hw hq]at h ⊢
  obtain⟨v,hv,hk⟩:=h;exact⟨v,λw' tf=>hv w' (si w' tf),hk⟩
theorem Jb {i:Nat}{o:Oper}{K K':Act->World->Prop}{a:Act}{w:World}(hi:ops[i]?=some o)(hq:chain P o=false)(hk:∀a,K a w->K' a w)(h:bD P ops D i K a w):bD P ops D i K' a w:=by
 cases hw:Region.wanted o (yielded ops a.tmps) with
 | false=>rw[cf hi hw]at h ⊢;exact hk _ h
 | true =>
  rw[bM hi hw hq]at h ⊢
  obtain⟨v,hv,hh⟩:=h;exact⟨v,hv,hk _ hh⟩
theorem Je {i j:Nat}{oi oj:Oper}{K:Act->World->Prop}{a:Act}{w:World}(si:∀w,C w->D w)(hi:ops[i]?=some oi)(hj:ops[j]?=some oj)(sj:oi.apart ops oj=true)(Cy:chain P oi=false)
  (hsi:∀cs b,oi.op≠.select cs b) (hsj:∀cs b,oj.op≠.select cs b) (h:bD P ops D i (bD P ops C j K) a w):bD P ops C j (bD P ops D i K) a w:=by
 obtain⟨h1,h2,h3⟩:=Oper.apart_spec sj;have ej:∀(b:Act) (v:Value),execOp (b.put oi.dst v).eval oj=execOp b.eval oj:=λb v=>execOp_put oj hsj b oi.dst v h1;have ei:∀(b:Act) (v:Value),execOp (b.put oj.dst v).eval oi=execOp b.eval oi:=λb v=>execOp_put oi hsi b oj.dst v h3;have wj:∀(b:Act) (v:Value),Region.wanted oj (yielded ops (b.put oi.dst v).tmps)=Region.wanted oj (yielded ops b.tmps):=λb v=>wanted_put oj b oi.dst v h1;have wi:∀(b:Act) (v:Value),Region.wanted oi (yielded ops (b.put oj.dst v).tmps)=Region.wanted oi (yielded ops b.tmps):=λb v=>wanted_put oi b oj.dst v h3;have cm:∀(b:Act) (v u:Value),(b.put oi.dst v).put oj.dst u=(b.put oj.dst u).put oi.dst v:=λb v u=>Act.put_comm b v u h2;cases gT:Region.wanted oi (yielded ops a.tmps) with
 | false =>
  rw[cf hi gT]at h;cases ff:Region.wanted oj (yielded ops a.tmps) with
  | false =>
   rw[cf hj (by rw[wj];exact ff)]at h;rw[cf hj ff,cf hi (by rw[wi];exact gT),<-cm];exact h
  | true =>
   cases qU:chain P oj with
   | true =>
    rw[eC hj (by rw[wj];exact ff) qU,ej]at h;rw[eC hj ff qU];refine jk (λv w' _ hh=>?_) h;rw[cf hi (by rw[wi];exact gT),<-cm];exact hh
   | false =>
    rw[bM hj (by rw[wj];exact ff) qU,ej]at h;rw[bM hj ff qU];obtain⟨v,hv,hk⟩:=h;refine⟨v,hv,?_⟩;rw[cf hi (by rw[wi];exact gT),<-cm];exact hk
 | true =>
  rw[bM hi gT Cy]at h;obtain⟨v,hv,hk⟩:=h;cases ff:Region.wanted oj (yielded ops a.tmps) with
  | false =>
   rw[cf hj (by rw[wj];exact ff)]at hk;rw[cf hj ff,bM hi (by rw[wi];exact gT) Cy,ei];exact⟨v,hv,by rw[<-cm];exact hk⟩
  | true =>
   cases qU:chain P oj with
   | true =>
    rw[eC hj (by rw[wj];exact ff) qU,ej]at hk;rw[eC hj ff qU];refine jk (λu w' _ hh=>?_) hk;rw[bM hi (by rw[wi];exact gT) Cy,ei];exact⟨v,hv,by rw[<-cm];exact hh⟩
   | false =>
    rw[bM hj (by rw[wj];exact ff) qU,ej]at hk;rw[bM hj ff qU];obtain⟨u,hu,hk⟩:=hk;refine⟨u,hu,?_⟩;rw[bM hi (by rw[wi];exact gT) Cy,ei];exact⟨v,hv,by rw[<-cm];exact hk⟩
def p3 (P:Program)(ops:Array Oper)(C D:World->Prop)(m:Nat)(R:Act->World->Prop):Nat->Array Bool->Act->World->Prop
 | 0,listed,a,w=>Region.ready .any ops listed=[]/\R a w
 | n+1,listed,a,w=>(Region.ready .any ops listed=[]->R a w)/\∀i∈Region.ready .any ops listed,bD P ops (nX C D m (listed.setIfInBounds i true)) i (p3 P ops C D m R n (listed.setIfInBounds i true)) a w
theorem ik (si:∀w,C w->D w){m:Nat}{R:Act->World->Prop}{Q:Exit->Act->World->Prop}(hq:∀a w,R a w->Q .normal a w):∀(n:Nat) (listed:Array Bool) (a:Act) (w:World),nX C D m listed w ->
  p3 P ops C D m R n listed a w->wpAny P .any ops Q n listed a w
 | 0,listed,a,w,_,h=>⟨h.1,hq _ _ h.2⟩
 | fuel+1,listed,a,w,hC,h=>⟨λh0=>hq _ _ (h.1 h0),λi hi=>by
   have h1:=h.2 i hi;have sg:=vn si (i:=i) hC;unfold bD at h1;unfold wpOp;split
   ·rename_i ho;simp only[ho]at h1;exact ik si hq fuel _ _ _ sg h1
   rename_i o ho;simp only[ho]at h1;split
   ·rename_i hw;simp only[hw,if_true]at h1;refine .inl ?_;split at h1
    ·exact Oper.wp_mono (λa' w' hh=>ik si hq fuel _ _ _ hh.1 hh.2) (lj h1)
    obtain⟨v,hv,hk⟩:=h1;unfold Oper.wp;rw[hv w sg];exact ik si hq fuel _ _ _ sg hk
   rename_i hw;simp only[hw]at h1;exact ik si hq fuel _ _ _ sg h1⟩
theorem p4 (si:∀w,C w->D w){m:Nat}{R:Act->World->Prop}{i:Nat}{oi:Oper}(fl:Bool)(hi:ops[i]?=some oi)(pC:∀(j:Nat) (o:Oper) cs b,ops[j]?=some o->o.op≠.select cs b) :
  ∀(fuel:Nat) (listed:Array Bool) (a:Act) (w:World),nX C D m listed w->po ops listed ->
   ((fl=true/\chain P oi=false/\i≠m)\/(fl=false/\(listed.getD m false=true\/(i≠m/\((Region.before ops).getD m 0).testBit i=true)))) ->
   (∀j oj,ops[j]?=some oj->j≠i->listed.getD j true=false->((Region.before ops).getD j 0).testBit i=false->oi.apart ops oj=true/\(chain P oi && chain P oj)=false) ->
   i∈Region.ready .any ops listed->bD P ops (if fl then D else nX C D m (listed.setIfInBounds i true)) i (p3 P ops C D m R fuel (listed.setIfInBounds i true)) a w->p3 P ops C D m R (fuel+1) listed a w:=by
 have A3:∀listed:Array Bool,∀i∈Region.ready .any ops listed,i<listed.size/\listed.getD i false=false:=λlisted i hr=>by
  have h0:=(mem_ready.1 hr).1;rcases Nat.lt_or_ge i listed.size with h'|h'
  ·simp[h']at h0 ⊢;exact h0
  simp[h']at h0
 have hE:∀(listed:Array Bool) (w:World),nX C D m listed w->(if fl then D else nX C D m (listed.setIfInBounds i true)) w:=λlisted w h=>by
  cases fl with
  | true=>exact tz si h
  | false=>exact vn si h
 have Kw:∀(listed:Array Bool) (K:Act->World->Prop) (a:Act) (w:World),((fl=true/\chain P oi=false/\i≠m)\/(fl=false/\(listed.getD m false=true\/(i≠m/\((Region.before ops).getD m 0).testBit i=true)))) ->
   bD P ops (if fl then D else nX C D m (listed.setIfInBounds i true)) i K a w->bD P ops (nX C D m (listed.setIfInBounds i true)) i K a w:=λlisted K a w hc h=>by
  rcases hc with ⟨rfl,hq,_⟩|⟨rfl,_⟩
  ·exact SM hi hq (λw hw=>tz si hw) h
  exact h
 intro fuel;induction fuel with
 | zero =>
  intro listed a w hC hS xP _ hr H;refine⟨λh=>(by rw[h]at hr;cases hr),λj hj=>?_⟩;by_cases nH:j=i
  ·subst nH;exact Kw _ _ _ _ xP H
  have:=ready_mono hj nH;obtain⟨_,_,_,hh⟩:=pL (hE _ _ hC) H;rw[hh.1]at this;cases this
 | succ fuel ih =>
  intro listed a w hC hS xP lE hr H;refine⟨λh=>(by rw[h]at hr;cases hr),λj hj=>?_⟩;by_cases nH:j=i
  ·subst nH;exact Kw _ _ _ _ xP H
  obtain⟨uS,oj,qZ,dD⟩:=mem_ready.1 hj;obtain⟨aN2,GW⟩:=A3 listed i hr;have aFv:=(A3 listed j hj).1;have AX:((Region.before ops).getD j 0).testBit i=false:=by
   cases hb:((Region.before ops).getD j 0).testBit i with
   | false=>rfl
   | true=>have:=hS.before j i oj qZ dD hb;rw[GW]at this;cases this
  obtain⟨sj,Tj⟩:=lE j oj qZ nH uS AX;have h1:bD P ops (if fl then D else nX C D m (listed.setIfInBounds i true)) i (bD P ops (nX C D m ((listed.setIfInBounds i true).setIfInBounds j true)) j (p3 P ops C D m R fuel ((listed.setIfInBounds i true).setIfInBounds j true))) a w :=
   bm (hE _ _ hC) (λa' w' _ hh=>hh.2 j (ready_mono hj nH)) H
  have key:bD P ops (nX C D m (listed.setIfInBounds j true)) j (bD P ops (if fl then D else nX C D m ((listed.setIfInBounds j true).setIfInBounds i true)) i (p3 P ops C D m R fuel ((listed.setIfInBounds i true).setIfInBounds j true))) a w /\
    ((fl=true/\chain P oi=false/\i≠m)\/(fl=false/\((listed.setIfInBounds j true).getD m false=true\/(i≠m/\((Region.before ops).getD m 0).testBit i=true)))):=by
   rcases xP with ⟨rfl,hq,him⟩|⟨rfl,xP⟩
   ·refine⟨?_,.inl ⟨rfl,hq,him⟩⟩;have e:nX C D m ((listed.setIfInBounds i true).setIfInBounds j true)=nX C D m (listed.setIfInBounds j true):=by
     rw[Array.setIfInBounds_comm _ _ (Ne.symm nH)];unfold nX;rw[getD_set_ne false him]
    rw[e]at h1;exact Je (λw hw=>tz si hw) hi qZ sj hq (λcs b=>pC i oi cs b hi) (λcs b=>pC j oj cs b qZ) h1
   simp only[Bool.false_eq_true,if_false]at h1;cases hm:listed.getD m false with
   | true =>
    have e1:∀k,(listed.setIfInBounds k true).getD m false=true:=λk=>getD_set_true hm;have e2:∀k k',((listed.setIfInBounds k true).setIfInBounds k' true).getD m false=true:=λk k'=>getD_set_true (e1 k);rw[nA (e1 i),nA (e2 i j)]at h1;refine⟨?_,.inr ⟨rfl,.inl (e1 j)⟩⟩;simp only[Bool.false_eq_true,if_false];rw[nA (e1 j),nA (e2 j i)];exact mV hi qZ sj Tj (λcs b=>pC i oi cs b hi) (λcs b=>pC j oj cs b qZ) h1
   | false =>
    have n9:=xP.resolve_left (by rw[hm];simp);have MO:j≠m:=λe=>by subst e;rw[AX]at n9;simp at n9
    have ei:(listed.setIfInBounds i true).getD m false=false:=by rw[getD_set_ne false n9.1];exact hm
    have ej:(listed.setIfInBounds j true).getD m false=false:=by rw[getD_set_ne false MO];exact hm
    have eji:((listed.setIfInBounds j true).setIfInBounds i true).getD m false=false:=by rw[getD_set_ne false n9.1];exact ej
    have eij:((listed.setIfInBounds i true).setIfInBounds j true).getD m false=false:=by rw[getD_set_ne false MO];exact ei
    rw[mz ei,mz eij]at h1;refine⟨?_,.inr ⟨rfl,.inr n9⟩⟩;simp only[Bool.false_eq_true,if_false];rw[mz ej,mz eji];exact mV hi qZ sj Tj (λcs b=>pC i oi cs b hi) (λcs b=>pC j oj cs b qZ) h1
  obtain⟨h2,uP⟩:=key;refine bm (vn si hC) (λa' w' sg h3=>ih (listed.setIfInBounds j true) a' w' sg (hS.set hj) uP ?_ (ready_mono hr (Ne.symm nH)) ?_) h2
  ·intro k ok hk JE XG gH;refine lE k ok hk JE ?_ gH;by_cases MN:j=k
   ·subst MN;exact uS
   rw[getD_set_ne true MN]at XG;exact XG
  rw[show (listed.setIfInBounds i true).setIfInBounds j true=(listed.setIfInBounds j true).setIfInBounds i true from Array.setIfInBounds_comm _ _ (Ne.symm nH)]at h3
  exact h3
def Jv (P:Program)(ops:Array Oper)(bf:Array Nat):List Nat->Array Bool->Bool
 | [],listed=>(Region.ready .any ops listed).isEmpty
 | k::r,listed=>(Region.ready .any ops listed).contains k && l9 P ops bf listed k && Jv P ops bf r (listed.setIfInBounds k true)
def YY (P:Program):Option Oper->Bool
 | some o=>!chain P o
 | none=>false
def YS (P:Program)(ops:Array Oper)(bf:Array Nat)(m:Nat)(post:List Nat):List (Nat×Bool)->Array Bool->Bool
 | [],listed=>(Region.ready .any ops listed).contains m && (Region.ready .any ops listed).all (· == m) && Jv P ops bf post (listed.setIfInBounds m true)
 | (k,fl)::r,listed=>(Region.ready .any ops listed).contains k && (k != m) && l9 P ops bf listed k && (if fl then YY P ops[k]? else (bf.getD m 0).testBit k) && YS P ops bf m post r (listed.setIfInBounds k true)
def YG (P:Program)(ops:Array Oper)(pre:List (Nat×Bool))(m:Nat)(post:List Nat):Bool:=Region.noSelect ops && (pre.length+(post.length+1) == ops.size) && YS P ops (Region.before ops) m post pre (Array.replicate ops.size false)
def yy (P:Program)(ops:Array Oper)(D:World->Prop)(R:Act->World->Prop):List Nat->Act->World->Prop
 | [],a,w=>R a w
 | k::r,a,w=>bD P ops D k (yy P ops D R r) a w
def CE (P:Program)(ops:Array Oper)(C D:World->Prop)(R:Act->World->Prop)(m:Nat)(post:List Nat):List (Nat×Bool)->Act->World->Prop
 | [],a,w=>bD P ops D m (yy P ops D R post) a w
 | (k,fl)::r,a,w=>bD P ops (if fl then D else C) k (CE P ops C D R m post r) a w
theorem xz (si:∀w,C w->D w){m:Nat}{R:Act->World->Prop}(hs:Region.noSelect ops=true):∀(post:List Nat) (listed:Array Bool) (a:Act) (w:World),D w->listed.getD m false=true->po ops listed ->
  Jv P ops (Region.before ops) post listed=true->yy P ops D R post a w->p3 P ops C D m R post.length listed a w
 | [],listed,a,w,_,_,_,hB,h=>⟨by simpa[Jv] using hB,h⟩
 | k::r,listed,a,w,hD,hm,hS,hB,h=>by
  simp only[Jv,Bool.and_eq_true]at hB;obtain⟨⟨hr,hf⟩,o8⟩:=hB;have jK:k∈Region.ready .any ops listed:=by simpa using hr
  obtain⟨_,ok,bO,_⟩:=mem_ready.1 jK;refine p4 si (i:=k) (oi:=ok) false bO (Region.noSelect_spec hs) r.length listed a w (by rw[nA hm];exact hD) hS (.inr ⟨rfl,.inl hm⟩) (fN bO hf) jK ?_;simp only[Bool.false_eq_true,if_false];rw[nA (getD_set_true hm)];exact bm hD (λa' w' hD' hh=>xz si hs r _ a' w' hD' (getD_set_true hm) (hS.set jK) o8 hh) h
theorem tY (si:∀w,C w->D w){m:Nat}{post:List Nat}{R:Act->World->Prop}(hs:Region.noSelect ops=true):∀(pre:List (Nat×Bool)) (listed:Array Bool) (a:Act) (w:World),C w->listed.getD m false=false->po ops listed ->
  YS P ops (Region.before ops) m post pre listed=true->CE P ops C D R m post pre a w->p3 P ops C D m R (pre.length+(post.length+1)) listed a w
 | [],listed,a,w,hC,hm,hS,hB,h=>by
  simp only[YS,Bool.and_eq_true,List.all_eq_true,beq_iff_eq]at hB;obtain⟨⟨hr,dD⟩,o8⟩:=hB;have jK:m∈Region.ready .any ops listed:=by simpa using hr
  have Dn:m<listed.size:=by
   have h0:=(mem_ready.1 jK).1;rcases Nat.lt_or_ge m listed.size with h'|h'
   ·exact h'
   simp[h']at h0
  have em:(listed.setIfInBounds m true).getD m false=true:=by simp[Dn]
  rw[List.length_nil,Nat.zero_add];refine⟨λh0=>(by rw[h0]at jK;cases jK),λi hi=>?_⟩;rw[dD i hi];rw[nA em];exact bm (si w hC) (λa' w' hD' hh=>xz si hs post _ a' w' hD' em (hS.set jK) o8 hh) h
 | (k,fl)::r,listed,a,w,hC,hm,hS,hB,h=>by
  simp only[YS,Bool.and_eq_true,bne_iff_ne,ne_eq]at hB;obtain⟨⟨⟨⟨hr,vW⟩,hf⟩,cJ⟩,o8⟩:=hB;have jK:k∈Region.ready .any ops listed:=by simpa using hr
  obtain⟨_,ok,bO,_⟩:=mem_ready.1 jK;have em:(listed.setIfInBounds k true).getD m false=false:=by rw[getD_set_ne false vW];exact hm
  rw[List.length_cons,Nat.add_right_comm];have iQ:nX C D m listed w:=by rw[mz hm];exact hC
  cases fl with
  | true =>
   simp only[if_true]at cJ;rw[bO]at cJ;have hq:chain P ok=false:=by simpa[YY] using cJ
   refine p4 si (i:=k) (oi:=ok) true bO (Region.noSelect_spec hs) _ listed a w iQ hS (.inl ⟨rfl,hq,vW⟩) (fN bO hf) jK ?_;simp only[if_true];have h:bD P ops D k (CE P ops C D R m post r) a w:=h;exact Jb bO hq (λa' hh=>tY si hs r _ a' w hC em (hS.set jK) o8 hh) h
  | false =>
   simp only[Bool.false_eq_true,if_false]at cJ;refine p4 si (i:=k) (oi:=ok) false bO (Region.noSelect_spec hs) _ listed a w iQ hS (.inr ⟨rfl,.inr ⟨vW,cJ⟩⟩) (fN bO hf) jK ?_;simp only[Bool.false_eq_true,if_false];rw[mz em];have h:bD P ops C k (CE P ops C D R m post r) a w:=h;exact bm hC (λa' w' sg hh=>tY si hs r _ a' w' sg em (hS.set jK) o8 hh) h
end
section
variable {P:Program}
def nT (P:Program)(ops:List Oper)(D:World->Prop)(R:Fr->World->Prop):(l:List Nat)->Fr->World->Ph (ops,D,R,l)->Prop
 | [],t,w,_=>R t w
 | k::r,t,w,_=>gY P ops D ops[k]? (λt w=>nT P ops D R r t w .mk) t w .mk
def nk (P:Program)(ops:List Oper)(C D:World->Prop)(R:Fr->World->Prop)(m:Nat)(post:List Nat):(l:List (Nat×Bool))->Fr->World->Ph (ops,C,D,R,m,post,l)->Prop
 | [],t,w,_=>gY P ops D ops[m]? (λt w=>nT P ops D R post t w .mk) t w .mk
 | (k,true)::r,t,w,_=>gY P ops D ops[k]? (λt w=>nk P ops C D R m post r t w .mk) t w .mk
 | (k,false)::r,t,w,_=>gY P ops C ops[k]? (λt w=>nk P ops C D R m post r t w .mk) t w .mk
theorem CD {ops:List Oper}{D:World->Prop}{R:Fr->World->Prop}{N:Act->World->Prop}(hn:∀t w,R t w->N ⟨t.toArray,[]⟩ w):∀(l:List Nat) (t:Fr) (w:World),nT P ops D R l t w .mk->yy P ops.toArray D N l ⟨t.toArray,[]⟩ w
 | [],t,w,h=>hn t w h
 | k::r,t,w,h=>dR (λt w=>CD hn r t w) h
theorem xF {ops:List Oper}{C D:World->Prop}{R:Fr->World->Prop}{N:Act->World->Prop}{m:Nat}{post:List Nat}(hn:∀t w,R t w->N ⟨t.toArray,[]⟩ w):∀(l:List (Nat×Bool)) (t:Fr) (w:World),nk P ops C D R m post l t w .mk->CE P ops.toArray C D N m post l ⟨t.toArray,[]⟩ w
 | [],t,w,h=>dR (λt w=>CD hn post t w) h
 | (k,true)::r,t,w,h=>dR (λt w=>xF hn r t w) h
 | (k,false)::r,t,w,h=>dR (λt w=>xF hn r t w) h
theorem ZO {id:Nat}{l:List Oper}{t:Fr}{w:World}{Q:EP}{p}(pre:List (Nat×Bool))(m:Nat)(post:List Nat)(C D:World->Prop)(hm:P.follows .mixedOrders=true)(hB:YG P l.toArray pre m post=true)(si:∀w,C w->D w)(hC:C w.drew)
  (h:nk P l C D (Q .normal) m post pre t w.drew .mk):cZ P (.region id l.toArray true) Q t w p:=by
 unfold cZ;simp only[YG,Bool.and_eq_true,beq_iff_eq]at hB;refine wp_region_any hm ?_;have hG:p3 P l.toArray C D m (λa w=>lift Q .normal a w) (pre.length+(post.length+1)) (Array.replicate l.toArray.size false) ⟨t.toArray,[]⟩ w.drew:=by
  refine tY si hB.1.1 pre _ _ _ hC (by rw[Array.getD_eq_getD_getElem?,Array.getElem?_replicate];split<;>rfl) (λj o _ hl=>by simp[Array.getElem?_replicate]at hl;split at hl<;>simp at hl) hB.2 ?_;exact xF (P:=P) (R:=Q .normal) (N:=λa w=>lift Q .normal a w) (λt w hk=>⟨rfl,by simpa using hk⟩) pre t w.drew h
 rw[hB.1.2]at hG;exact ik si (R:=λa w=>lift Q .normal a w) (Q:=λe a w=>lift Q e a w) (λ_ _ h=>h) _ _ _ _ (by rw[mz (by rw[Array.getD_eq_getD_getElem?,Array.getElem?_replicate];split<;>rfl)];exact hC) hG
variable {t:Fr} {w:World} {C D:World->Prop} {R:Fr->World->Prop}
theorem Kh (ops)(p):nT P ops D R [] t w p=R t w:=(rfl)
theorem HR (ops k r)(p):nT P ops D R (k::r) t w p=gY P ops D ops[k]? (λt w=>nT P ops D R r t w .mk) t w .mk:=(rfl)
theorem N2 (ops m post)(p):nk P ops C D R m post [] t w p=gY P ops D ops[m]? (λt w=>nT P ops D R post t w .mk) t w .mk:=(rfl)
theorem Kj (ops m post k r)(p):nk P ops C D R m post ((k,true)::r) t w p=gY P ops D ops[k]? (λt w=>nk P ops C D R m post r t w .mk) t w .mk:=(rfl)
theorem HS (ops m post k r)(p):nk P ops C D R m post ((k,false)::r) t w p=gY P ops C ops[k]? (λt w=>nk P ops C D R m post r t w .mk) t w .mk:=(rfl)
end
attribute [push_cast] Kh HR N2 Kj HS
attribute [irreducible] nT nk
theorem Own.aMa {α:Type}{base k:Nat}{e:TypeId}{enc:α->List Value}{w:World}{b o n c:Nat}{l:List α}(h:Vc.Own base e k enc w (.slice (some ⟨b,o,none⟩) n c) l):o=0:=by
 rcases h.1.2 with ⟨he,_⟩|⟨g,cap,cr,he,_⟩
 ·cases he
 cases he;rfl
section
variable {P:Program} {t:Fr} {w:World} {C:World->Prop} {K:VK}
theorem Xj (d)(args:List Operand)(mm ty pos af g)(p):dp P ⟨d,.call { callee:=.builtin .max,args:=args.toArray,argTypes:=mm },ty,pos,af,g⟩ t w C K p =
  Z8 true (args.map (ev t)) (K · w) False .mk:=rfl
theorem Xk (d)(args:List Operand)(mm ty pos af g)(p):dp P ⟨d,.call { callee:=.builtin .min,args:=args.toArray,argTypes:=mm },ty,pos,af,g⟩ t w C K p =
  Z8 false (args.map (ev t)) (K · w) False .mk:=rfl
end
attribute [push_cast] Xj Xk
theorem dM {P:Program}{f:FuncId}{fn:Func}{args:List Value}{w:World}{R:VK}(hf:P.funcs[f]?=some fn)(hb:fn.body.isNone=false)(hn:(fn.name == "runtime.NumGoroutine")=false)
  (h:Calls P f args.toArray w λe w'=>∃v,e=.returned v/\R v w'):ar P f args w R:=⟨bh hf hb hn,h⟩
theorem YI {α:Type}{w:World}{e:TypeId}{k g G:Nat}{enc:α->List Value}{cur:Array Value}(hk:∀x,(enc x).length=k)(hb:w.heap[g]?=some (.cells cur e (0,0)))(hG:G<=maxLen)(hs:cur.size=G*k):Vc.Own g e k enc w (.slice (some ⟨g,0,none⟩) 0 G) ([]:List α) :=
 ⟨⟨by simp,.inr ⟨g,G,cur,rfl,Nat.le_refl _,hb,Nat.zero_le _,hG,hs,by simp⟩⟩,hk⟩
theorem FC {P:Program}{f:FuncId}{args:List Value}{w:World}{R:VK}(h:ar P f args w R):Calls P f args.toArray w λe w'=>∃v,e=.returned v/\R v w':=h.2
end Go.Vc
namespace Go.RowKit
theorem Below.tr {a b c:World}(h:Below a.heap.size a b)(k:Below b.heap.size b c):Below a.heap.size a c:=h.trans (k.mono h.size)
end Go.RowKit
namespace Cae
def QO (n:Nat):UInt8:=if n<10 then UInt8.ofNat (48+n) else UInt8.ofNat (87+n)
def qV:Nat->Nat->List UInt8->List UInt8
 | 0,n,acc=>QO n::acc
 | f+1,n,acc=>if n<16 then QO n::acc else qV f (n / 16) (QO (n % 16)::acc)
def gk (n:Nat):List UInt8:=qV 8 n []
theorem Is:∀(f n:Nat) (acc:List UInt8),(qV f n acc).length<=f+1+acc.length
 | 0,n,acc=>by rw[qV];simp;omega
 | f+1,n,acc=>by
  rw[qV];split
  ·simp;omega
  have:=Is f (n / 16) (QO (n % 16)::acc);rw[List.length_cons]at this;omega
theorem uQ (n:Nat):(gk n).length<=9:=Is 8 n []
end Cae
namespace Go.Vc
open Go.RowKit
theorem aCx {α:Type}{f:α->Value}{w:World}{b c j n:Nat}{e:TypeId}{l:List α}{cs:List Value}(hB:aM w b e cs)(hd:cs.drop j=l.map f)(hn:n=l.length)(hc:l.length<=c):Sl (λ_=>False) 1 (En (λx=>[f x])) w (.slice (some ⟨b,j,none⟩) n c) l:=by
 subst hn;refine⟨_,_,rfl,hc,λi x hx=>⟨b,j,[f x],rfl,id,rfl,λk u hu=>?_,rfl⟩⟩;cases k with
 | zero =>
  simp at hu;subst hu;rw[Nat.mul_one,Nat.add_zero];refine hB.cell ?_;have h1:(cs.drop j)[i]?=some (f x):=by rw[hd,List.getElem?_map,hx];rfl
  rwa [List.getElem?_drop]at h1
 | succ k=>simp at hu
end Go.Vc
namespace Go.Proofs.YtemjejfpadnljaaGreatDoor
open Go.Vc Go.Proofs Go.RowKit
def bH (k:Nat):List Value:=[.int .i64 k]
end Go.Proofs.YtemjejfpadnljaaGreatDoor
namespace Go.Vc
def encS (b:List UInt8):List Value:=[str b]
end Go.Vc
namespace Go.Vc
open Go.RowKit
theorem Sl.strs {X:Nat->Prop}{w:World}{v:Value}{x:List UInt8}{l:List (List UInt8)}(h:Sl X 1 (En Vc.encS) w v (x::l)):∃b o c,v=.slice (some ⟨b,o,none⟩) (x::l).length c/\(x::l).length<=c/\b<w.heap.size/\∀(j:Nat) y,((x::l).map λt:List UInt8=>(⟨t.toArray⟩:ByteArray))[j]?=some y->w.cell? ⟨b,o+j,none⟩=some (.string y):=by
 obtain⟨a,c,rfl,hc,xQ⟩:=h;have h0:=xQ 0 x rfl;obtain⟨b,o,cs,rfl,hb,iS,aP,hr⟩:=h0;have dD:∀(j:Nat) y,((x::l).map λt:List UInt8=>(⟨t.toArray⟩:ByteArray))[j]?=some y->w.cell? ⟨b,o+j,none⟩=some (.string y):=by
  intro j y hy;rw[List.getElem?_map]at hy;cases hx:(x::l)[j]? with
  | none=>rw[hx]at hy;cases hy
  | some t =>
   rw[hx]at hy;cases hy;have h1:=xQ j t hx;obtain⟨b1,o1,cs1,he,fe,aTO,aFj,vZ⟩:=h1;cases he
   have:=aFj 0 (str t) (by rw[vZ];rfl);rwa [Nat.mul_one,Nat.add_zero]at this
 exact⟨b,o,c,rfl,hc,World.block_lt_of_cell? w _ (dD 0 _ rfl),dD⟩
end Go.Vc
namespace Go.Proofs.YtemjejfpadnljaaGreatDoor
open Go.Vc Go.Proofs Go.RowKit Cae
attribute [local irreducible] cZ ab ai aX runK ar Sl Vc.Own vc aS bu aZ
def Db (w:World):Prop:=w.cell? ⟨9,15,none⟩=some (.int .u8 4)
theorem Db.below {w w':World}{B:Nat}(h:Db w)(hb:Below B w w')(hB:9<B):Db w':=(hb.cell hB).trans h
theorem Db.lt {w:World}(h:Db w):9<w.heap.size:=World.block_lt_of_cell? w _ h
theorem Ev {x y:Nat}(hx:x<18446744073709551616)(hy:y<18446744073709551616):cE .and .u64 x y=((x &&& y:Nat):Int):=by
 simp only[cE,lx,BitVec.toNat_and,BitVec.toNat_ofNat];rw[Nat.mod_eq_of_lt (show x<2 ^ IntKind.u64.bits by show x<2 ^ 64;omega),Nat.mod_eq_of_lt (show y<2 ^ IntKind.u64.bits by show y<2 ^ 64;omega),fS,Nat.mod_eq_of_lt (LU (n:=64) hx)]
theorem V6:∀d:Nat,d<16->([48,49,50,51,52,53,54,55,56,57,97,98,99,100,101,102,103,104,105,106,107,108,109,110,111,112,113,114,115,116,117,118,119,120,121,122]:List UInt8).getD d 0=QO d:=by decide
theorem aGB (w:World):ar Tryz.prog 231 [.int .i64 16] w λr w'=>r=.bool true/\w'=w:=by
 refine aE Tryz.func231 rfl (by kernel_rfl) [2] rfl ?_;push_cast -dsimp(maxSteps:=9^7) [Tryz.ntmps231];have e1:cE .and .i64 16 15=0:=by decide +kernel
 rw[e1];rfl
theorem aG9 (w:World)(h:Db w):ar Tryz.prog 234 [.int .u64 16] w λr w'=>r=.int .i64 4/\w'=w:=by
 refine aE Tryz.func234 rfl (by kernel_rfl) [2] rfl ?_;push_cast -dsimp(maxSteps:=9^7) [Tryz.ntmps234];push_cast -dsimp;have e1:(IntKind.u64.wrap (cE .and .u64 16 (IntKind.u64.wrap (-16))*285870213051353865)).fdiv (2 ^ min 58 IntKind.u64.bits)=15:=by decide +kernel
 rw[e1];have h':w.cell? ⟨9,15,none⟩=some (.int .u8 4):=h;push_cast -dsimp[h'];rfl
theorem aPC (w:World)(h:Db w):ar Tryz.prog 232 [.int .u64 16] w λr w'=>r=.int .i64 4/\w'=w:=by
 refine aE Tryz.func232 rfl (by kernel_rfl) [2] rfl ?_;push_cast -dsimp(maxSteps:=9^7) [Tryz.ntmps232];refine aA (aG9 w h) ?_;rintro _ w1 ⟨rfl,rfl⟩;push_cast -dsimp
theorem TM {P:Program}{xt:TypeId}{n s:Nat}{e:TypeId}{E:Option (TypeId×Nat)}{a:Addr}{j:Nat}{L:VP}{o:Oper}{t:Fr}{w:World}{K:VK}{Q:EP}{p}(hu:P.underlying xt=some (.array n e))(hn:P.arrayLen xt=n)(he:P.elem xt=e)
  (hs:(sizeOf e).run P w=.ok s w) (ho:execOp (ev t) o=(do pure (.value (<-Instr.sliceAt xt (.pointer (some a)) (some (.int .i64 (j:Int))) none none)))) (hj:j<n)
  (k:K (.slice (some (a.add (j*s))) (n-j) (n-j)) w):fa (P.underlying xt) E (.pointer (some a)) (some (.int .i64 (j:Int))) none none L (runK P o t w K Q .mk) p:=by
 rw[hu]
 show runK P o t w K Q .mk
 refine fu ho (fh ?_ k);rw[run_sliceAt_array_l w xt a (by rw[hu,hn,he]) .i64 (j:Int) (by omega) (by rw[hn];omega),he,hs];rw[hn];unfold slicedAt;rw[Int.toNat_natCast]
 show Result.ok (Value.slice (some (if n=j then a else a.add (j*s))) (n-j) (n-j)) w=_
 rw[if_neg (by omega)]
theorem GD (n:Nat)(hn:n<4294967296)(w:World)(h:Db w) :
  ar Tryz.prog 228 [.slice none 0 0,.int .u64 (n:Int),.int .i64 16,.bool false,.bool false] w λr w'=>r=.tuple #[.slice none 0 0,str (gk n)]/\Below w.heap.size w w':=by
 refine aE Tryz.func228 rfl (by kernel_rfl) [10,11] rfl ?_;push_cast -dsimp(maxSteps:=9^7) [Tryz.ntmps228];push_cast -dsimp;refine aq (z:=List.replicate 65 (.int .u8 0)) (by kernel_rfl) ?_;intro w1 aU;have pY:=aU.size;have fe:=aU.below;push_cast -dsimp;refine aA (aGB w1) ?_;rintro _ w2 ⟨rfl,rfl⟩;push_cast -dsimp;have e4:IntKind.u64.wrap 4=4:=by decide
 have e16:IntKind.u64.wrap 16=16:=by decide
 have e15:IntKind.u64.wrap (16-1)=15:=by decide
 refine aA (aPC w2 (h.below fe h.lt)) ?_;rintro _ w3 ⟨rfl,rfl⟩;push_cast -dsimp[e4,e16,e15];refine aK [1,13,44,45,46,47,48,49,50,51,52,53,54,55,56,57] (λz wx=>∃(f m i:Nat) (acc:List UInt8) (cs:List Value),z 1=.int .u64 (m:Int)/\z 13=.int .i64 (i:Int)/\i=57+f/\f<=8/\m<16 ^ (f+1)/\qV f m acc=gk n/\cs.length=65/\cs.drop i=acc.map (λb=>.int .u8 (b.toNat:Int))/\aM wx w.heap.size 306 cs/\Below w.heap.size w wx) (λz _=>(intOf (z 13)).toNat) ?_ ?_
 ·refine⟨8,n,65,[],_,rfl,rfl,rfl,Nat.le_refl _,by omega,rfl,List.length_replicate ..,?_,aU.aL,fe⟩;rfl
 intro z wx hI;obtain⟨f,m,i,acc,cs,h1,GF,hif,hf,hm,hh,iQ,hcd,hB,eV⟩:=hI;have ya:=eV.size;have aOl:m<18446744073709551616:=Nat.lt_of_lt_of_le hm (Nat.le_trans (Nat.pow_le_pow_right (by omega) (show f+1<=9 by omega)) (by decide))
 have H2:∃d,m % 16=d:=⟨_,rfl⟩;obtain⟨d,hd⟩:=H2;have aNy:d<16:=by omega
 have ea:cE .and .u64 (m:Int) (IntKind.u64.wrap 15)=(d:Int):=by
  rw[show IntKind.u64.wrap 15=((2 ^ 4-1:Nat):Int) from rfl,Ev aOl (by omega),mF,<-hd]
 have hq:∃q,m / 16=q:=⟨_,rfl⟩;obtain⟨q,hq⟩:=hq;have es:(m:Int).fdiv (2 ^ min 4 IntKind.u64.bits)=(q:Int):=by
  rw[<-hq];exact yw (b:=4) (k:=4) rfl (by decide)
 have OH:∃j,i=j+1:=⟨i-1,by omega⟩;obtain⟨j,rfl⟩:=OH;have ej:((j:Nat):Int)+1-1=(j:Int):=by omega
 push_cast -dsimp[h1,GF,ea,es,ej];refine⟨λeY=>?_,λao=>?_⟩
 ·refine⟨⟨by omega,by omega⟩,⟨by omega,by omega⟩,⟨by omega,by omega⟩,?_⟩;rw[V6 d aNy];refine aC hB (by omega) rfl ?_;intro w5 cI;have NQ:w5.heap.size=wx.heap.size:=cI.size;push_cast -dsimp[es];cases f with
  | zero=>exact absurd hm (by omega)
  | succ f =>
   rw[qV,if_neg (by omega),hq,hd]at hh;refine⟨⟨f,q,j,QO d::acc,_,rfl,rfl,by omega,by omega,?_,hh,by rw[List.length_set];exact iQ,?_,cI.aL,eV.trans (cI.kept.below ya (λg hg=>Nat.le_of_eq (Eq.symm hg)))⟩,by rw[GF];simp only[intOf];omega⟩
   ·rw[<-hq];refine Nat.div_lt_of_lt_mul ?_;rw[Nat.mul_comm,<-Nat.pow_succ];exact hm
   rw[List.drop_set,if_neg (by omega),Nat.sub_self,List.drop_eq_getElem_cons (by omega),List.set_cons_zero,hcd,List.map_cons]
 have Dh:QO m::acc=gk n:=by
  rw[<-hh];cases f with
  | zero=>rfl
  | succ f=>rw[qV,if_pos (by omega)]
 have aOk:m<16:=by omega
 refine⟨⟨by omega,by omega⟩,⟨by omega,by omega⟩,⟨by omega,by omega⟩,?_⟩;rw[V6 m aOk];refine aC hB (by omega) rfl ?_;intro w5 cI;have NQ:w5.heap.size=wx.heap.size:=cI.size;push_cast -dsimp;refine TM (n:=65) (s:=1) (e:=5) (by kernel_rfl) (by kernel_rfl) (by kernel_rfl) (by rfl) rfl (by omega) ?_;push_cast -dsimp;have pD:Sl (λ_=>False) 1 (En jI) w5 (.slice (some ⟨w.heap.size,j,none⟩) (65-j) (65-j)) (QO m::acc):=by
  refine aCx (f:=λb:UInt8=>.int .u8 (b.toNat:Int)) cI.aL ?_ ?_ ?_
  ·rw[List.drop_set,if_neg (by omega),Nat.sub_self,List.drop_eq_getElem_cons (by omega),List.set_cons_zero,hcd,List.map_cons]
  ·have:=congrArg List.length hcd;rw[List.length_drop,List.length_map,iQ]at this;rw[List.length_cons];omega
  have:=congrArg List.length hcd;rw[List.length_drop,List.length_map,iQ]at this;rw[List.length_cons];omega
 refine aGN (e:=5) (by kernel_rfl) (by kernel_rfl) (by kernel_rfl) pD ?_;push_cast -dsimp;rw[Dh];exact⟨rfl,eV.trans (cI.kept.below ya (λg hg=>Nat.le_of_eq (Eq.symm hg)))⟩
theorem WG (n:Nat)(hn:n<4294967296)(w:World)(h:Db w):ar Tryz.prog 221 [.int .i64 (n:Int),.int .i64 16] w λr w'=>r=str (gk n)/\Below w.heap.size w w':=by
 refine aE Tryz.func221 rfl (by kernel_rfl) [4] rfl ?_;push_cast -dsimp(maxSteps:=9^7) [Tryz.ntmps221];have e1:IntKind.u64.wrap (n:Int)=(n:Int):=by rw[fS,Nat.mod_eq_of_lt (by omega)]
 have e2:decide ((n:Int)<0)=false:=decide_eq_false (by omega);push_cast -dsimp[e1,e2];refine aA (GD n hn w h) ?_;rintro _ w1 ⟨rfl,hb⟩;push_cast -dsimp;exact hb
theorem aEE (n:Nat)(hn:n<4294967296)(w:World)(h:Db w):ar Tryz.prog 209 [.int .i64 (n:Int),.int .i64 16] w λr w'=>r=str (gk n)/\Below w.heap.size w w':=by
 refine aE Tryz.func209 rfl (by kernel_rfl) [4] rfl ?_;push_cast -dsimp(maxSteps:=9^7) [Tryz.ntmps209];refine aA (WG n hn w h) ?_;rintro _ w1 ⟨rfl,hb⟩;push_cast -dsimp;exact hb
theorem aDC (n:Nat)(hn:n<4294967296)(w:World)(h:Db w):ar Tryz.prog 187 [.int .i64 (n:Int)] w λr w'=>r=str (gk n)/\Below w.heap.size w w':=by
 refine aE Tryz.func187 rfl (by kernel_rfl) [2] rfl ?_;push_cast -dsimp(maxSteps:=9^7) [Tryz.ntmps187];refine aA (aEE n hn w h) ?_;rintro _ w1 ⟨rfl,hb⟩;push_cast -dsimp;exact hb
def Dt:Go.Shelf.Ren:=⟨λ| 156=>21|165=>37|166=>38|169=>39|240=>61|241=>62|276=>101|277=>102|n=>n,λ| 31=>56|9=>9|3=>3|4=>4|0=>0|20=>20|72=>90|76=>92|70=>87|37=>88|75=>34|127=>150|164=>192|5=>5|80=>94|n=>n,λ| n=>n⟩
theorem aDP:Go.Proofs.Lays.n156 Tryz.prog Dt:={
 mixed:=by kernel_rfl
 f156:=Tryz.func21.trans (congrArg some (by kernel_rfl))
 f165:=Tryz.func37.trans (congrArg some (by kernel_rfl))
 f166:=Tryz.func38.trans (congrArg some (by kernel_rfl))
 f169:=Tryz.func39.trans (congrArg some (by kernel_rfl))
 f240:=Tryz.func61.trans (congrArg some (by kernel_rfl))
 f241:=Tryz.func62.trans (congrArg some (by kernel_rfl))
 f276:=Tryz.func101.trans (congrArg some (by kernel_rfl))
 f277:=Tryz.func102.trans (congrArg some (by kernel_rfl))
 t0:=Tryz.underlying0
 a0:=Tryz.isAgg0
 z0:=Tryz.sizeOf0
 v0:=Tryz.zeroValue0
 t3:=Tryz.underlying3
 a3:=Tryz.isAgg3
 z3:=Tryz.sizeOf3
 v3:=Tryz.zeroValue3
 t4:=Tryz.underlying4
 a4:=Tryz.isAgg4
 z4:=Tryz.sizeOf4
 v4:=Tryz.zeroValue4
 t9:=Tryz.underlying9
 a9:=Tryz.isAgg9
 z9:=Tryz.sizeOf9
 v9:=Tryz.zeroValue9
 t20:=Tryz.underlying20
 a20:=Tryz.isAgg20
 z20:=Tryz.sizeOf20
 v20:=Tryz.zeroValue20
 t31:=Tryz.underlying56
 a31:=Tryz.isAgg56
 z31:=Tryz.sizeOf56
 v31:=Tryz.zeroValue56
 t37:=Tryz.underlying88
 a37:=Tryz.isAgg88
 z37:=Tryz.sizeOf88
 v37:=Tryz.zeroValue88
 t70:=Tryz.underlying87
 a70:=Tryz.isAgg87
 z70:=Tryz.sizeOf87
 v70:=Tryz.zeroValue87
 t72:=Tryz.underlying90
 a72:=Tryz.isAgg90
 z72:=Tryz.sizeOf90
 v72:=Tryz.zeroValue90
 t75:=Tryz.underlying34
 a75:=Tryz.isAgg34
 z75:=Tryz.sizeOf34
 v75:=Tryz.zeroValue34
 t76:=Tryz.underlying92
 a76:=Tryz.isAgg92
 z76:=Tryz.sizeOf92
 v76:=Tryz.zeroValue92
 t127:=Tryz.underlying150
 a127:=Tryz.isAgg150
 z127:=Tryz.sizeOf150
 v127:=Tryz.zeroValue150
 t164:=Tryz.underlying192
 a164:=Tryz.isAgg192
 z164:=Tryz.sizeOf192
 v164:=Tryz.zeroValue192 }
theorem aDQ:Builder.Extra Tryz.prog Dt where
 sizeBuilder:=by kernel_rfl
 liesBuilder:=by kernel_rfl
 t5:=by kernel_rfl
 a5:=λw=>(nS (P:=Tryz.prog) (by kernel_rfl) w).1
 z5:=λw=>(nS (P:=Tryz.prog) (by kernel_rfl) w).2
 v5:=by intro w;rfl
 infoByte:=by kernel_rfl
 cellsByte:=by kernel_rfl
 sizeByte:=by kernel_rfl
 neB5:=by decide
theorem aF9 (l:List (List UInt8))(sep:List UInt8)(hN:l.length<1000000000)(hlen:(Lib.join l sep).length<=140737488355328)(X:Nat->Prop)(v:Value)(w:World)(hv:Sl X 1 (En Vc.encS) w v l) :
  ar Tryz.prog 21 [v,str sep] w λr w'=>r=str (Lib.join l sep)/\Below w.heap.size w w':=by
 refine dM Tryz.func21 (by kernel_rfl) (by kernel_rfl) ?_;cases l with
 | nil =>
  have eN:=hv.shape;obtain⟨a,c,rfl,hc⟩:=eN;refine Calls.mono (Any.strings_Join_none aDP aDQ a c ⟨sep.toArray⟩ w) ?_;rintro e w' ⟨rfl,rfl⟩;exact⟨_,rfl,rfl,Below.refl _ _⟩
 | cons x l =>
  have pD:=hv.strs;obtain⟨b,o,c,rfl,hc,hb,aP⟩:=pD;have e1:(((x::l).map λt:List UInt8=>(⟨t.toArray⟩:ByteArray)).map (·.data.toList))=x::l:=by
   rw[List.map_map];exact List.map_id' _
  have hj:=Any.strings_Join aDP aDQ b o c ((x::l).map λt:List UInt8=>(⟨t.toArray⟩:ByteArray)) ⟨sep.toArray⟩ w aP hb (by rw[List.length_map];omega) (by rw[List.length_map];exact hc) (by rw[e1];exact hlen);rw[e1,List.length_map]at hj;refine Calls.mono hj ?_;rintro e w' ⟨rfl,Z0⟩;exact⟨_,rfl,rfl,Z0⟩
end Go.Proofs.YtemjejfpadnljaaGreatDoor
namespace Cae
def ry (r:Rg):List UInt8:=gk r.1.toNat++(if r.1<r.2 then 45::gk r.2.toNat else [])
def gU (s:List Rg):List UInt8:=91::(Go.Lib.join (s.map ry) [32]++[93])
def Wr (s:List Rg):Prop:=∀r∈s,0<=r.1/\r.1<4294967296/\r.2<4294967296
theorem Oy (r:Rg):(ry r).length<=19:=by
 unfold ry;have h1:=uQ r.1.toNat;have h2:=uQ r.2.toNat;split<;>simp<;>omega
theorem Rs (s:List Rg):(Go.Lib.join (s.map ry) [32]).length<=20*s.length:=by
 cases s with
 | nil=>simp[Go.Lib.join_nil]
 | cons r s =>
  rw[List.map_cons,Go.Lib.join_cons,List.length_append,Go.Lib.joinTail_length];have h1:=Oy r;have h2:Go.Lib.lens (s.map ry)<=19*s.length:=by
   induction s with
   | nil=>simp[Go.Lib.lens]
   | cons q s ih =>
    have:=Oy q;simp only[Go.Lib.lens,List.map_cons,List.sum_cons,List.length_cons]at ih ⊢
    omega
  simp only[List.length_cons,List.length_nil,List.length_map];omega
theorem CG:∀{s:List Rg} {a:Int},-2<=a->aO a s=true->Wr s
 | [],_,_,_=>λr hr=>by cases hr
 | q::s,a,ha,h=>by
  rw[br]at h;intro r hr;rcases List.mem_cons.1 hr with rfl|hr
  ·omega
  exact CG (by omega) h.2 r hr
end Cae
namespace Cae
def mI (c:UInt8)(s:List UInt8):List UInt8×List UInt8×Bool:=if s.contains c then (s.takeWhile (· != c),(s.dropWhile (· != c)).drop 1,true) else (s,[],false)
def splitB (c:UInt8):List UInt8->List (List UInt8)
 | []=>[[]]
 | b::r=>if b == c then []::splitB c r else match splitB c r with
  | []=>[[b]]
  | p::ps=>(b::p)::ps
theorem u5 (c:UInt8):∀s:List UInt8,Go.Lib.indexByte s c=if s.contains c then ((s.takeWhile (· != c)).length:Int) else -1
 | []=>rfl
 | b::r=>by
  rw[Go.Lib.indexByte,List.contains_cons,u5 c r,List.takeWhile_cons];by_cases h:b=c
  ·subst h;simp
  have h1:(b == c)=false:=by simpa using h
  have h2:(c == b)=false:=by simpa using(λe=>h e.symm:¬c=b)
  have h3:(b != c)=true:=by simp[h]
  rw[h1,h2,h3,Bool.false_or];cases hc:r.contains c with
  | true =>
   have:¬((((r.takeWhile (· != c)).length:Nat):Int) == -1)=true:=by simp
   simp only[if_true,if_neg this,Bool.false_eq_true,if_false,List.length_cons];omega
  | false=>simp
theorem yx (p:UInt8->Bool):∀s:List UInt8,s.take (s.takeWhile p).length=s.takeWhile p
 | []=>rfl
 | b::r=>by
  rw[List.takeWhile_cons];split
  ·rw[List.length_cons,List.take_succ_cons,yx p r]
  rfl
theorem FM (p:UInt8->Bool):∀s:List UInt8,s.drop (s.takeWhile p).length=s.dropWhile p
 | []=>rfl
 | b::r=>by
  rw[List.takeWhile_cons,List.dropWhile_cons];split
  ·rw[List.length_cons,List.drop_succ_cons,FM p r]
  rfl
theorem PW {c:UInt8}:∀{s:List UInt8},s.contains c=true->(s.takeWhile (· != c)).length<s.length
 | [],h=>by cases h
 | b::r,h=>by
  rw[List.takeWhile_cons];split
  ·rename_i hb;have:r.contains c=true:=by
    rw[List.contains_cons,Bool.or_eq_true]at h;rcases h with h|h
    ·have:c=b:=by simpa using h
     subst this;simp at hb
    exact h
   have:=PW this;simp only[List.length_cons];omega
  simp
theorem NX {c:UInt8}:∀{s:List UInt8},s.contains c=false->s.takeWhile (· != c)=s
 | [],_=>rfl
 | b::r,h=>by
  rw[List.contains_cons,Bool.or_eq_false_iff]at h;have h1:(b != c)=true:=by have:=h.1;simp at this;simp;exact λe=>this e.symm
  rw[List.takeWhile_cons,if_pos h1,NX h.2]
theorem sC (p:UInt8->Bool):∀s:List UInt8,(s.dropWhile p).length<=s.length
 | []=>Nat.le_refl _
 | b::r=>by
  have:=sC p r;rw[List.dropWhile_cons];split<;>simp<;>omega
theorem VS (c:UInt8)(s:List UInt8):(mI c s).1.length<=s.length/\(mI c s).2.1.length<=s.length:=by
 unfold mI;split
 ·rename_i h;have h1:=PW h;have h2:=sC (· != c) s;refine⟨by show (s.takeWhile (· != c)).length<=_;omega,?_⟩
  show ((s.dropWhile (· != c)).drop 1).length<=_
  rw[List.length_drop];omega
 simp
theorem TP (c:UInt8):∀s,splitB c s≠[]
 | []=>by simp[splitB]
 | b::r=>by
  rw[splitB];split
  ·simp
  split<;>simp
theorem r6 (c:UInt8):∀s:List UInt8,splitB c s=s.takeWhile (· != c)::(if s.contains c then splitB c ((s.dropWhile (· != c)).drop 1) else [])
 | []=>rfl
 | b::r=>by
  rw[splitB,List.takeWhile_cons,List.dropWhile_cons,List.contains_cons];by_cases h:b=c
  ·subst h;simp
  have h1:(b == c)=false:=by simpa using h
  have h2:(c == b)=false:=by simpa using λe=>h e.symm
  have h3:(b != c)=true:=by simp[h]
  rw[h1,h2,h3,Bool.false_or,r6 c r];rfl
theorem tU (c:UInt8):∀s:List UInt8,(splitB c s).length<=s.length+1
 | []=>by simp[splitB]
 | b::r=>by
  have h:=tU c r;rw[splitB];split
  ·simp;omega
  cases hs:splitB c r with
  | nil=>simp
  | cons p ps=>rw[hs]at h;simp at h ⊢;omega
theorem pX (c:UInt8):∀(s p:List UInt8),p∈splitB c s->p.length<=s.length
 | [],p,h=>by simp[splitB]at h;subst h;simp
 | b::r,p,h=>by
  rw[splitB]at h;split at h
  ·rcases List.mem_cons.1 h with rfl|h
   ·simp
   have:=pX c r p h;simp;omega
  cases hs:splitB c r with
  | nil=>exact absurd hs (TP c r)
  | cons q qs =>
   rw[hs]at h;rcases List.mem_cons.1 h with rfl|h
   ·have:=pX c r q (by rw[hs];simp);simp;omega
   have:=pX c r p (by rw[hs];simp[h]);simp;omega
end Cae
namespace Go.Proofs.YtemjejfpadnljaaGreatDoor
open Go.Vc Go.Proofs Go.RowKit Cae
attribute [local irreducible] cZ ab ai aX runK ar Sl Vc.Own vc aS bu aZ
theorem Ot (s:List Rg)(hs:s.length<10000000)(hw:Wr s)(X:Nat->Prop)(v:Value)(w:World)(hv:Sl X 2 (En bA) w v s)(h:Db w) :
  ar Tryz.prog 168 [v] w λr w'=>r=str (gU s)/\Below w.heap.size w w':=by
 obtain⟨a,c,rfl,hc⟩:=hv.shape;refine aE Tryz.func168 rfl (by kernel_rfl) [2] rfl ?_;push_cast -dsimp(maxSteps:=9^7) [Tryz.ntmps168];refine aK [3,5,6,9,10,11,12,13,14,15,16,17,18,19,20,21,22,23,24,25,26,27,28,29,30,31] (λz wx=>∃(i:Nat) (ov:Value),z 9=.int .i64 i/\z 3=ov/\i<=s.length/\Vc.Own w.heap.size 9 1 Vc.encS wx ov ((s.take i).map ry)/\Below w.heap.size w wx) (λz _=>s.length-(intOf (z 9)).toNat) ?_ ?_
 ·exact⟨0,_,rfl,rfl,Nat.zero_le _,Vc.Own.nil (enc:=Vc.encS) _ _ (λ_=>rfl) _,Below.refl _ _⟩
 intro z wx hI;obtain⟨i,ov,h9,h3,hi,eG,eV⟩:=hI;have ya:=eV.size;push_cast -dsimp[h9,h3];refine⟨λao=>?_,λeY=>?_⟩
 ·have hg:=ae (l:=s) (i:=i) (by omega);obtain⟨x,hx,mR,_,ht⟩:=hg;have oI:=hv.below eV;have hg:=oI.get hx;obtain⟨b,o,rfl,mO,aP⟩:=hg;have cx:aB wx ⟨b,o+i*2,none⟩ 0 2=some [.int .i64 x.1,.int .i64 x.2]:=aj (bA x) 0 (λj u hu=>by simpa using aP j u hu);have hxw:=hw x mR;obtain⟨x1,x2,x3⟩:=hxw;have Qd:(s.take (i+1)).map ry=(s.take i).map ry++[ry x]:=by
   rw[ht,List.map_append];rfl
  have hgn:∃n:Nat,x.1=n:=⟨x.1.toNat,by omega⟩;obtain⟨n,hn⟩:=hgn;rw[hn]at cx;push_cast -dsimp[cx];refine⟨⟨by omega,by omega⟩,?_⟩;refine aq (z:=[.int .i64 0,.int .i64 0]) (by kernel_rfl) ?_;intro w3 cN;have LF:=cN.size;push_cast -dsimp;refine aH (n:=2) (by kernel_rfl) cN.aL rfl (by simp) (by simp[Value.oneCell']) ?_;intro w4 ah;have KZ:=ah.size;have c0:w4.cell? ⟨wx.heap.size,0,none⟩=some (.int .i64 (n:Int)):=ah.aL.cell rfl;have c1:w4.cell? ⟨wx.heap.size,1,none⟩=some (.int .i64 x.2):=ah.aL.cell rfl;push_cast -dsimp[c0,c1];have k4:Kept (λj=>j=wx.heap.size) wx w4:=(Kept.new cN).trans ah.kept (λ_ _ h=>h);have kU:=eG.aJ k4 (λg hg h=>by have:=eG.block g hg;omega);have nn:Below w.heap.size w w4:=eV.trans (k4.below ya (λ_ h=>by omega));have eN:=kU.slice;obtain⟨oa,oc,rfl⟩:=eN;refine aA (aDC n (by omega) w4 (h.below nn h.lt)) ?_;rintro _ w5 ⟨rfl,mn⟩;have NQ:=mn.size;have CW:=kU.below mn;have GG:=nn.trans (mn.mono (show w.heap.size<=w4.heap.size by omega))
  have c5:w5.cell? ⟨wx.heap.size,0,none⟩=some (.int .i64 (n:Int)):=(mn.cell (by show wx.heap.size<w4.heap.size;omega)).trans c0
  have c5':w5.cell? ⟨wx.heap.size,1,none⟩=some (.int .i64 x.2):=(mn.cell (by show wx.heap.size<w4.heap.size;omega)).trans c1
  push_cast -dsimp[c5,c5'];refine⟨λH3=>?_,λhle=>?_⟩
  ·have hgm:∃m:Nat,x.2=m:=⟨x.2.toNat,by omega⟩;obtain⟨m,hm⟩:=hgm;have hrg:ry x=gk n++45::gk m:=by unfold ry;rw[if_pos (by omega),hn,hm];rfl
   rw[hm]at c5';rw[hm];refine aA (aDC m (by omega) w5 (h.below GG h.lt)) ?_;rintro _ w6 ⟨rfl,ob⟩;have K0:=ob.size;have qD:=CW.below ob;have rO:=GG.trans (ob.mono (show w.heap.size<=w5.heap.size by omega))
   have vX:=uQ n;have oy:=uQ m;push_cast -dsimp;refine⟨by omega,by simp only[List.length_append,List.length_cons,List.length_nil];omega,?_⟩;refine cH s9 rfl rfl (by omega) ?_;intro w7 fB;have K1:w7.heap.size=w6.heap.size+1:=fB.size;have mQ:=qD.new fB;push_cast -dsimp;refine aW (base:=w.heap.size) [ry x] (enc:=Vc.encS) s9 mQ (by rfl) (λj u hu=>by rw[hrg]at hu;rw[Nat.zero_add];exact fB.cell hu) (by simp[Vc.encS,str,Value.oneCell']) (by simp only[List.length_cons,List.length_nil,List.length_map,List.length_take];omega) (by omega) ?_;intro v8 w8 rQ Dg hn8;have mh:Below w.heap.size w w8:=(rO.trans (fB.below.mono (by omega))).trans ((Kept.grown (X:=λj=>w.heap.size<=j) Dg (λk hk=>(mQ.block k hk).1)).below (by omega) (λ_ h=>h));rw[<-Qd]at rQ;push_cast -dsimp;exact⟨⟨by omega,by omega⟩,⟨i+1,_,rfl,rfl,by omega,rQ,mh⟩,by rw[h9];simp only[intOf];omega⟩
  have hrg:ry x=gk n:=by unfold ry;rw[if_neg (by omega),hn];exact List.append_nil _
  refine cH s9 rfl rfl (by omega) ?_;intro w7 fB;have K1:w7.heap.size=w5.heap.size+1:=fB.size;have mQ:=CW.new fB;push_cast -dsimp;refine aW (base:=w.heap.size) [ry x] (enc:=Vc.encS) s9 mQ (by rfl) (λj u hu=>by rw[hrg]at hu;rw[Nat.zero_add];exact fB.cell hu) (by simp[Vc.encS,str,Value.oneCell']) (by simp only[List.length_cons,List.length_nil,List.length_map,List.length_take];omega) (by omega) ?_;intro v8 w8 rQ Dg hn8;have mh:Below w.heap.size w w8:=(GG.trans (fB.below.mono (by omega))).trans ((Kept.grown (X:=λj=>w.heap.size<=j) Dg (λk hk=>(mQ.block k hk).1)).below (by omega) (λ_ h=>h));rw[<-Qd]at rQ;push_cast -dsimp;exact⟨⟨by omega,by omega⟩,⟨i+1,_,rfl,rfl,by omega,rQ,mh⟩,by rw[h9];simp only[intOf];omega⟩
 have nG:i=s.length:=by omega
 subst nG;rw[List.take_length]at eG;have hjl:=Rs s;refine aA (aF9 (s.map ry) [32] (by rw[List.length_map];omega) (by omega) _ _ wx eG.sl) ?_;rintro _ w6 ⟨rfl,ob⟩;have rO:=eV.trans (ob.mono ya);push_cast -dsimp;refine⟨by omega,by simp only[List.length_append,List.length_cons,List.length_nil];omega,?_,rO⟩;rfl
def M1:Go.Shelf.Ren:=⟨λ| 143=>202|219=>203|217=>119|225=>85|224=>84|267=>215|266=>144|314=>223|n=>n,λ| 9=>9|3=>3|4=>4|5=>5|46=>133|146=>295|51=>168|n=>n,λ| 1=>2|n=>n⟩
theorem aF5:Go.Proofs.Lays.n143 Tryz.prog M1:={
 mixed:=by kernel_rfl
 f143:=Tryz.func202.trans (congrArg some (by kernel_rfl))
 f217:=Tryz.func119.trans (congrArg some (by kernel_rfl))
 f219:=Tryz.func203.trans (congrArg some (by kernel_rfl))
 f224:=Tryz.func84.trans (congrArg some (by kernel_rfl))
 f225:=Tryz.func85.trans (congrArg some (by kernel_rfl))
 f266:=Tryz.func144.trans (congrArg some (by kernel_rfl))
 f267:=Tryz.func215.trans (congrArg some (by kernel_rfl))
 f314:=Tryz.func223.trans (congrArg some (by kernel_rfl))
 t3:=Tryz.underlying3
 a3:=Tryz.isAgg3
 z3:=Tryz.sizeOf3
 v3:=Tryz.zeroValue3
 t4:=Tryz.underlying4
 a4:=Tryz.isAgg4
 z4:=Tryz.sizeOf4
 v4:=Tryz.zeroValue4
 t5:=Tryz.underlying5
 a5:=Tryz.isAgg5
 z5:=Tryz.sizeOf5
 v5:=Tryz.zeroValue5
 t9:=Tryz.underlying9
 a9:=Tryz.isAgg9
 z9:=Tryz.sizeOf9
 v9:=Tryz.zeroValue9
 t46:=Tryz.underlying133
 a46:=Tryz.isAgg133
 z46:=Tryz.sizeOf133
 v46:=Tryz.zeroValue133
 t51:=Tryz.underlying168
 a51:=Tryz.isAgg168
 z51:=Tryz.sizeOf168
 v51:=Tryz.zeroValue168
 t146:=Tryz.underlying295
 a146:=Tryz.isAgg295
 z146:=Tryz.sizeOf295
 v146:=Tryz.zeroValue295
 g1:=by kernel_rfl }
def JR:Go.Shelf.Ren:=⟨λ| 219=>203|217=>119|225=>85|224=>84|267=>215|266=>144|314=>223|n=>n,λ| 9=>9|3=>3|4=>4|5=>5|46=>133|146=>295|51=>168|n=>n,λ| 1=>2|n=>n⟩
theorem aBx:Go.Proofs.Lays.n219 Tryz.prog JR:={
 mixed:=by kernel_rfl
 f217:=Tryz.func119.trans (congrArg some (by kernel_rfl))
 f219:=Tryz.func203.trans (congrArg some (by kernel_rfl))
 f224:=Tryz.func84.trans (congrArg some (by kernel_rfl))
 f225:=Tryz.func85.trans (congrArg some (by kernel_rfl))
 f266:=Tryz.func144.trans (congrArg some (by kernel_rfl))
 f267:=Tryz.func215.trans (congrArg some (by kernel_rfl))
 f314:=Tryz.func223.trans (congrArg some (by kernel_rfl))
 t3:=Tryz.underlying3
 a3:=Tryz.isAgg3
 z3:=Tryz.sizeOf3
 v3:=Tryz.zeroValue3
 t4:=Tryz.underlying4
 a4:=Tryz.isAgg4
 z4:=Tryz.sizeOf4
 v4:=Tryz.zeroValue4
 t5:=Tryz.underlying5
 a5:=Tryz.isAgg5
 z5:=Tryz.sizeOf5
 v5:=Tryz.zeroValue5
 t9:=Tryz.underlying9
 a9:=Tryz.isAgg9
 z9:=Tryz.sizeOf9
 v9:=Tryz.zeroValue9
 t46:=Tryz.underlying133
 a46:=Tryz.isAgg133
 z46:=Tryz.sizeOf133
 v46:=Tryz.zeroValue133
 t51:=Tryz.underlying168
 a51:=Tryz.isAgg168
 z51:=Tryz.sizeOf168
 v51:=Tryz.zeroValue168
 t146:=Tryz.underlying295
 a146:=Tryz.isAgg295
 z146:=Tryz.sizeOf295
 v146:=Tryz.zeroValue295
 g1:=by kernel_rfl }
def Hw:Go.Shelf.Ren:=⟨λ| 103=>163|210=>181|206=>198|n=>n,λ| 9=>9|4=>4|24=>246|3=>3|n=>n,λ| n=>n⟩
theorem aAh:Go.Proofs.Lays.n103 Tryz.prog Hw:={
 mixed:=by kernel_rfl
 f103:=Tryz.func163.trans (congrArg some (by kernel_rfl))
 f206:=Tryz.func198.trans (congrArg some (by kernel_rfl))
 f210:=Tryz.func181.trans (congrArg some (by kernel_rfl))
 t3:=Tryz.underlying3
 a3:=Tryz.isAgg3
 z3:=Tryz.sizeOf3
 v3:=Tryz.zeroValue3
 t4:=Tryz.underlying4
 a4:=Tryz.isAgg4
 z4:=Tryz.sizeOf4
 v4:=Tryz.zeroValue4
 t9:=Tryz.underlying9
 a9:=Tryz.isAgg9
 z9:=Tryz.sizeOf9
 v9:=Tryz.zeroValue9
 t24:=Tryz.underlying246
 a24:=Tryz.isAgg246
 z24:=Tryz.sizeOf246
 v24:=Tryz.zeroValue246 }
def Hx:Go.Shelf.Ren:=⟨λ| 104=>164|211=>182|207=>199|n=>n,λ| 9=>9|4=>4|24=>246|3=>3|n=>n,λ| n=>n⟩
theorem aAi:Go.Proofs.Lays.n104 Tryz.prog Hx:={
 mixed:=by kernel_rfl
 f104:=Tryz.func164.trans (congrArg some (by kernel_rfl))
 f207:=Tryz.func199.trans (congrArg some (by kernel_rfl))
 f211:=Tryz.func182.trans (congrArg some (by kernel_rfl))
 t3:=Tryz.underlying3
 a3:=Tryz.isAgg3
 z3:=Tryz.sizeOf3
 v3:=Tryz.zeroValue3
 t4:=Tryz.underlying4
 a4:=Tryz.isAgg4
 z4:=Tryz.sizeOf4
 v4:=Tryz.zeroValue4
 t9:=Tryz.underlying9
 a9:=Tryz.isAgg9
 z9:=Tryz.sizeOf9
 v9:=Tryz.zeroValue9
 t24:=Tryz.underlying246
 a24:=Tryz.isAgg246
 z24:=Tryz.sizeOf246
 v24:=Tryz.zeroValue246 }
theorem aBz (s:List UInt8)(c:UInt8)(w:World):ar Tryz.prog 202 [str s,str [c]] w λr w'=>r=.int .i64 (Lib.indexByte s c)/\w'=w:=by
 refine dM Tryz.func202 (by kernel_rfl) (by kernel_rfl) ?_;refine Calls.mono (Any.strings_Index_one aF5 ⟨s.toArray⟩ c w) ?_;rintro e w' ⟨rfl,rfl⟩;exact⟨_,rfl,rfl,rfl⟩
theorem aBy (s:List UInt8)(c:UInt8)(w:World):ar Tryz.prog 203 [str s,str [c]] w λr w'=>r=.int .i64 (Lib.indexByte s c)/\w'=w:=by
 refine dM Tryz.func203 (by kernel_rfl) (by kernel_rfl) ?_;refine Calls.mono (Any.stringslite_Index_one aBx ⟨s.toArray⟩ c w) ?_;rintro e w' ⟨rfl,rfl⟩;exact⟨_,rfl,rfl,rfl⟩
theorem VT (s p:List UInt8)(w:World):ar Tryz.prog 163 [str s,str p] w λr w'=>r=.tuple #[str (Lib.trimPrefix s p),.bool (Lib.hasPrefix s p)]/\w'=w:=by
 refine dM Tryz.func163 (by kernel_rfl) (by kernel_rfl) ?_;refine Calls.mono (Any.strings_CutPrefix aAh ⟨s.toArray⟩ ⟨p.toArray⟩ w) ?_;rintro e w' ⟨rfl,rfl⟩;exact⟨_,rfl,rfl,rfl⟩
theorem VV (s p:List UInt8)(hs:s.length<=9223372036854775807)(w:World):ar Tryz.prog 164 [str s,str p] w λr w'=>r=.tuple #[str (Lib.trimSuffix s p),.bool (Lib.hasSuffix s p)]/\w'=w:=by
 refine dM Tryz.func164 (by kernel_rfl) (by kernel_rfl) ?_;refine Calls.mono (Any.strings_CutSuffix aAi ⟨s.toArray⟩ ⟨p.toArray⟩ w hs) ?_;rintro e w' ⟨rfl,rfl⟩;exact⟨_,rfl,rfl,rfl⟩
theorem aH4 (s:List UInt8)(c:UInt8)(hs:s.length<=1000000000)(w:World):ar Tryz.prog 184 [str s,str [c]] w λr w'=>r=.tuple #[str (mI c s).1,str (mI c s).2.1,.bool (mI c s).2.2]/\Below w.heap.size w w':=by
 refine aE Tryz.func184 rfl (by kernel_rfl) [4,5,6] rfl ?_;push_cast -dsimp(maxSteps:=9^7) [Tryz.ntmps184];refine aA (aBy s c w) ?_;rintro _ w1 ⟨rfl,rfl⟩;rw[u5];unfold mI;cases hc:s.contains c with
 | false =>
  simp only[Bool.false_eq_true,if_false];push_cast -dsimp;exact Below.refl _ _
 | true =>
  simp only[if_true];have ao:=PW hc;have hg:∃k,(s.takeWhile (· != c)).length=k:=⟨_,rfl⟩;obtain⟨k,hk⟩:=hg;have h1:s.takeWhile (· != c)=s.take k:=by rw[<-hk];exact(yx _ s).symm
  have h2:(s.dropWhile (· != c)).drop 1=s.drop (k+1):=by rw[<-FM,List.drop_drop,hk]
  rw[h1,h2];rw[hk]at ao;have h3:(s.take k).length=k:=by rw[List.length_take];omega
  rw[h3];have eY:decide ((k:Int)>=0)=true:=decide_eq_true (by omega);push_cast -dsimp[eY];refine b8 (λ_=>True) mixed (by kernel_rfl) trivial ?_;push_cast -dsimp;refine⟨by omega,by omega,by omega,?_,(Below.refl _ _).drew⟩;rw[show ((k:Int)+1).toNat=k+1 by omega]
theorem aH3 (s:List UInt8)(c:UInt8)(hs:s.length<=1000000000)(w:World):ar Tryz.prog 166 [str s,str [c]] w λr w'=>r=.tuple #[str (mI c s).1,str (mI c s).2.1,.bool (mI c s).2.2]/\Below w.heap.size w w':=by
 refine aE Tryz.func166 rfl (by kernel_rfl) [4,5,6] rfl ?_;push_cast -dsimp(maxSteps:=9^7) [Tryz.ntmps166];refine aA (aH4 s c hs w) ?_;rintro _ w1 ⟨rfl,hb⟩;push_cast -dsimp;exact hb
end Go.Proofs.YtemjejfpadnljaaGreatDoor
namespace Cae
def dv (b:UInt8):Nat:=if b.toNat<=57 then b.toNat-48 else b.toNat-87
def mT (b:UInt8):Bool:=(decide (48<=b.toNat) && decide (b.toNat<=57)) || (decide (97<=b.toNat) && decide (b.toNat<=102))
def iT (l:List UInt8):Nat:=l.foldl (λm b=>16*m+dv b) 0
theorem rK:∀d:Nat,d<16->mT (QO d)=true/\dv (QO d)=d:=by decide
theorem Ir:∀(f n:Nat) (acc:List UInt8),n<16 ^ (f+1)->(∀b∈acc,mT b=true)->∀b∈qV f n acc,mT b=true
 | 0,n,acc,hn,h=>by
  rw[qV];intro b hb;rcases List.mem_cons.1 hb with rfl|hb
  ·exact(rK n (by omega)).1
  exact h b hb
 | f+1,n,acc,hn,h=>by
  rw[qV];split
  ·intro b hb;rcases List.mem_cons.1 hb with rfl|hb
   ·exact(rK n (by omega)).1
   exact h b hb
  refine Ir f (n / 16) _ (Nat.div_lt_of_lt_mul (by rw[Nat.mul_comm,<-Nat.pow_succ];exact hn)) ?_;intro b hb;rcases List.mem_cons.1 hb with rfl|hb
  ·exact(rK (n % 16) (by omega)).1
  exact h b hb
theorem D8 (l:List UInt8):∀m:Nat,l.foldl (λm b=>16*m+dv b) m=16 ^ l.length*m+iT l:=by
 unfold iT;induction l with
 | nil=>intro m;simp
 | cons b l ih =>
  intro m;rw[List.foldl_cons,List.foldl_cons,ih,ih (16*0+dv b),List.length_cons,Nat.pow_succ,Nat.mul_add];have:16 ^ l.length*(16*m)=16 ^ l.length*16*m:=by rw[Nat.mul_assoc]
  rw[this];simp;omega
theorem wE (b:UInt8)(l:List UInt8):iT (b::l)=16 ^ l.length*dv b+iT l:=by
 have:=D8 l (16*0+dv b);unfold iT at this ⊢
 rw[List.foldl_cons,this];simp
theorem It:∀(f n:Nat) (acc:List UInt8),n<16 ^ (f+1)->iT (qV f n acc)=16 ^ acc.length*n+iT acc
 | 0,n,acc,hn=>by rw[qV,wE,(rK n (by omega)).2]
 | f+1,n,acc,hn=>by
  rw[qV];split
  ·rw[wE,(rK n (by omega)).2]
  rw[It f (n / 16) _ (Nat.div_lt_of_lt_mul (by rw[Nat.mul_comm,<-Nat.pow_succ];exact hn)),wE,(rK (n % 16) (by omega)).2,List.length_cons,Nat.pow_succ];have h1:=Nat.div_add_mod n 16;have h2:16 ^ acc.length*n=16 ^ acc.length*16*(n / 16)+16 ^ acc.length*(n % 16):=by
   rw[Nat.mul_assoc,<-Nat.mul_add,h1]
  rw[h2];omega
theorem fo {n:Nat}(hn:n<4294967296):∀b∈gk n,mT b=true:=Ir 8 n [] (by omega) (λb h=>by cases h)
theorem jU {n:Nat}(hn:n<4294967296):iT (gk n)=n:=by
 unfold gk;rw[It 8 n [] (by omega)];simp[iT]
theorem OE:∀(f n:Nat) (acc:List UInt8),qV f n acc≠[]
 | 0,n,acc=>by rw[qV];simp
 | f+1,n,acc=>by
  rw[qV];split
  ·simp
  exact OE f _ _
theorem yh (n:Nat):gk n≠[]:=OE 8 n []
theorem De (l:List UInt8)(b:UInt8):iT (l++[b])=16*iT l+dv b:=by
 unfold iT;rw[List.foldl_append];rfl
theorem Df (l:List UInt8)(i:Nat):iT (l.take i)<=iT l:=by
 have e:=D8 (l.drop i) (iT (l.take i));have h0:iT l=16 ^ (l.drop i).length*iT (l.take i)+iT (l.drop i):=by
  rw[<-e]
  conv=>lhs;rw[<-List.take_append_drop i l]
  unfold iT;rw[List.foldl_append]
 have h1:1<=16 ^ (l.drop i).length:=Nat.pos_of_ne_zero (by simp);rw[h0];exact Nat.le_trans (Nat.le_mul_of_pos_left (iT (l.take i)) h1) (Nat.le_add_right _ _)
end Cae
namespace Go.Vc
open Go.RowKit
def Byt (w:World)(b:Nat)(e:TypeId)(l:List UInt8):Prop :=
 ∃(cs:Array Value) (n:Nat),w.heap[b]?=some (.cells cs e (n,n+1))/\cs.size<=n/\∀(j:Nat) (c:UInt8),l[j]?=some c->cs[j]?=some (Value.int IntKind.u8 (c.toNat:Int))
theorem Byt.cell {w:World}{b:Nat}{e:TypeId}{l:List UInt8}(h:Byt w b e l){j:Nat}{c:UInt8}(hc:l[j]?=some c):w.cell? ⟨b,j,none⟩=some (.int .u8 (c.toNat:Int)):=by
 obtain⟨cs,n,h,_,hh⟩:=h;simp[World.cell?,h,hh j c hc]
theorem aEg {P:Program}{s d e:TypeId}{l:List UInt8}{t:Fr}{w:World}{K:VK}{Q:EP}{p}(hs:P.underlying s=some .string)(hd:P.underlying d=some (.slice e))(he:P.underlying e=some (.int .u8))
  (kk:∀c w',l.length<=c->Byt w' w.heap.size e l->Below w.heap.size w w'->K (.slice (some ⟨w.heap.size,0,none⟩) l.length c) w'):ai P (convert s d (str l)) t w K Q p:=by
 have hr:=run_bytes_of_string (P:=P) w s d e ⟨l.toArray⟩ hs hd he;have Dn:ByteArray.size ⟨l.toArray⟩=l.length:=by simp[ByteArray.size]
 refine fh hr ?_;rw[Dn];refine kk _ _ (grownCap_ge _ _ _ _) ⟨bytesRow ⟨l.toArray⟩ (grownCap w l.length 0 e),(bytesRow ⟨l.toArray⟩ (grownCap w l.length 0 e)).size,?_,Nat.le_refl _,λj c hj=>?_⟩ ((Below.refl w.heap.size w).drew.alloc (Nat.le_refl _) _)
 ·exact heap_alloc_new w.drew _
 have ao:=(List.getElem?_eq_some_iff.1 hj).1
 have:=bytesRow_at ⟨l.toArray⟩ (grownCap w l.length 0 e) j (by simpa using ao);rw[this];have:l[j]?=some l[j]:=List.getElem?_eq_getElem ao;rw[this]at hj;cases hj;simp
theorem aEw {L:VP}{other:Prop}(ty v ty' v' c)(p):cG 1 c .eql (.iface ty v) (.iface ty' v') L other p=other:=(rfl)
theorem aB6 {L:VP}{other:Prop}(ty v ty' v' c)(p):cG 1 c .neq (.iface ty v) (.iface ty' v') L other p=other:=(rfl)
attribute [push_cast] aEw aB6
theorem lu {P:Program}{o:Oper}{t:Fr}{w:World}{K:VK}{Q:EP}{ty:TypeId}{x y:Operand}{z:TypeId}{te:TypeId}{k q:IntKind}{a b:Int}{ms:Array (String×TypeId)}(ho:o.op=.binOp .neq ty x y z)(hx:ev t x=.iface te (.int k a))(hy:ev t y=.iface te (.int k b))
  (ht:P.underlying ty=some (.interface ms)) (hc:(P.info? te).map (·.comparable)=some true) (he:P.underlying te=some (.int q)) (kk:K (.bool (!(a == b))) w):runK P o t w K Q .mk:=by
 refine fu (s:=do eqGuard .neq ty x y (ev t x) (ev t y);binOp .neq ty (ev t x) (ev t y)) (by unfold execOp;simp only[ho]) (fh (w':=w) ?_ kk);rw[Sem.run_bind,nZ (.inl (by rw[hx];simp)) (by intro c;rw[hx];simp)]
 show (binOp .neq ty (ev t x) (ev t y)).run P w=_
 rw[hx,hy];exact Lib.run_neq_iface_int w a b ht hc he
end Go.Vc
namespace Go.Proofs.YtemjejfpadnljaaGreatDoor
open Go.Vc Go.Proofs Go.RowKit Cae
attribute [local irreducible] cZ ab ai aX runK ar Sl Vc.Own vc aS bu aZ
theorem aKJ:∀b:Nat,b<256->0<=cE .or .u8 (b:Int) 32/\cE .or .u8 (b:Int) 32<=255/\(97<=b->b<=102->cE .or .u8 (b:Int) 32=b)/\(b<48->cE .or .u8 (b:Int) 32<97)/\(b=95->cE .or .u8 (b:Int) 32=127):=by decide +kernel
theorem lZ (b:Int)(w:World):ar Tryz.prog 216 [.int .u8 b] w λr w'=>r=.int .u8 (cE .or .u8 b 32)/\w'=w:=by
 refine aE Tryz.func216 rfl (by kernel_rfl) [2] rfl ?_;push_cast -dsimp(maxSteps:=9^7) [Tryz.ntmps216]
def aHX (e:Value):Prop:=e=.nilIface\/e=.iface 276 (.int .i64 1)\/e=.iface 276 (.int .i64 2)
theorem qt (bits:Int)(kE:bits=32\/bits=40)(s:List UInt8)(hs:s.length<=1000000000)(w:World):ar Tryz.prog 204 [str s,.int .i64 16,.int .i64 bits] w λr w'=>(∃(v:Nat) (e:Value),r=.tuple #[.int .u64 (v:Int),e]/\v<1099511627776/\aHX e/\(∀n<4294967296,s=gk n->v=n/\e=.nilIface))/\Below w.heap.size w w':=by
 refine aE Tryz.func204 rfl (by kernel_rfl) [6,7] rfl ?_;push_cast -dsimp(maxSteps:=9^7) [Tryz.ntmps204];by_cases cY:s=[]
 ·subst cY;have e0:decide (([]:List UInt8)=[])=true:=rfl;push_cast -dsimp(maxSteps:=9^7) [e0];refine⟨⟨0,_,rfl,by omega,.inr (.inr rfl),λn _ h=>absurd h.symm (yh n)⟩,Below.refl _ _⟩
 have ef:decide False=false:=rfl;have emx:∃mx:Nat,IntKind.u64.wrap (IntKind.u64.wrap (1*2 ^ min (IntKind.u64.wrap bits).toNat IntKind.u64.bits)-1)=(mx:Int)/\4294967295<=mx/\mx<1099511627776:=by
  rcases kE with rfl|rfl
  ·exact⟨4294967295,by decide,by omega,by omega⟩
  exact⟨1099511627775,by decide,by omega,by omega⟩
 obtain⟨mx,emx,aUq,aUr⟩:=emx;push_cast -dsimp(maxSteps:=9^7) [ef];refine⟨λh=>absurd h cY,λ_=>⟨λh=>by omega,λ_=>⟨λ_=>⟨λh=>by omega,λ_=>⟨by rcases kE with rfl|rfl<;>decide,?_⟩⟩,λh=>by omega⟩⟩⟩;rw[emx];refine aEg (e:=5) (by kernel_rfl) (by kernel_rfl) (by kernel_rfl) ?_;intro cap w1 aTJ n0 fe;have pY:=fe.size;push_cast -dsimp(maxSteps:=9^7) [ef];refine aK [6,7,12,13,15,16,17,101,102,103,104,105,106,107,108,109,110,111,112,113,114,115,116,117,118,119,120,121,122,123,124,125,126,127,128,129,130,131,132,133,134,135,136,137,138,139,140,141,142,143,144,145,146,147,148,149,150,151,152,153,154,155,156,157,158,159,160,161,162,163] (λz wx=>∃(i m:Nat),z 101=.int .i64 (i:Int)/\z 13=.int .u64 (m:Int)/\z 12=.bool false/\i<=s.length/\m<=mx/\((∀b∈s,mT b=true)->iT s<4294967296->m=iT (s.take i))/\Below w.heap.size w wx/\Byt wx w.heap.size 5 s) (λz _=>s.length-(intOf (z 101)).toNat) ?_ ?_
 ·exact⟨0,0,rfl,rfl,rfl,Nat.zero_le _,by omega,λ_ _=>rfl,fe,n0⟩
 intro z wx hI;obtain⟨i,m,aEG,GF,vu,hi,hm,hv,eV,oE⟩:=hI;push_cast -dsimp(maxSteps:=9^7) [aEG,GF,vu,ef];refine⟨λao=>?_,λeY=>?_⟩
 ·have hg:=ae (l:=s) (i:=i) (by omega);obtain⟨x,hx,mR,hxd,hxt⟩:=hg;have cx:=oE.cell hx;have mh:x.toNat<256:=x.toNat_lt;have sr:=aKJ x.toNat mh;have DB:(∀b∈s,mT b=true)->mT x=true:=λh=>h x mR;have Wh:dv x=if x.toNat<=57 then x.toNat-48 else x.toNat-87:=rfl
  have JC:mT x=((decide (48<=x.toNat) && decide (x.toNat<=57)) || (decide (97<=x.toNat) && decide (x.toNat<=102))):=rfl;have CQ:∃b,x.toNat=b:=⟨_,rfl⟩;obtain⟨b,hb⟩:=CQ;rw[hb]at cx mh sr Wh JC;have OG:∃l,cE .or .u8 (b:Int) 32=l:=⟨_,rfl⟩;obtain⟨l,hl⟩:=OG;rw[hl]at sr;have OG:∃lo:Nat,l=(lo:Int):=⟨l.toNat,by omega⟩;obtain⟨lo,AV⟩:=OG;subst AV;have rk:decide ((m:Int)>=1152921504606846976)=false:=decide_eq_false (by omega);have e16:IntKind.u8.wrap 16=16:=by decide
  have aAm:IntKind.u64.wrap 16=16:=by decide
  have hgk:∃k,16*m=k:=⟨_,rfl⟩;obtain⟨k,hk⟩:=hgk;have ek:IntKind.u64.wrap ((m:Int)*16)=(k:Int):=by
   rw[show (m:Int)*16=(k:Int) by omega,fS,Nat.mod_eq_of_lt (by omega)]
  refine⟨by omega,?_⟩;obtain⟨Dk,vX,oy,OM,CV⟩:=sr;by_cases hA:48<=b/\b<=57
  ·have QQ:decide ((b:Int)=95)=false:=decide_eq_false (by omega);have e1:decide (48<=(b:Int))=true:=decide_eq_true (by omega);have e2:decide ((b:Int)<=57)=true:=decide_eq_true (by omega);have H2:∃dn:Nat,b-48=dn:=⟨_,rfl⟩;obtain⟨dn,aJJ⟩:=H2;have edn:IntKind.u8.wrap ((b:Int)-48)=(dn:Int):=by
    rw[show (b:Int)-48=(dn:Int) by omega,fT,Nat.mod_eq_of_lt (by omega)]
   have hdn:mT x=true->dn=dv x:=λ_=>by rw[Wh,if_pos hA.2];exact aJJ.symm
   by_cases hd:dn<16
   ·have ed:decide ((dn:Int)>=16)=false:=decide_eq_false (by omega);have Vf:IntKind.u64.wrap (dn:Int)=(dn:Int):=by rw[fS,Nat.mod_eq_of_lt (by omega)]
    have hgq:∃q,k+dn=q:=⟨_,rfl⟩;obtain⟨q,hq⟩:=hgq;have eq:IntKind.u64.wrap ((k:Int)+(dn:Int))=(q:Int):=by
     rw[show (k:Int)+(dn:Int)=(q:Int) by omega,fS,Nat.mod_eq_of_lt (by omega)]
    have elt:decide ((q:Int)<(k:Int))=false:=decide_eq_false (by omega);have OO:(∀b∈s,mT b=true)->iT s<4294967296->q=iT (s.take (i+1)):=λh1 h2=>by
     have:=hv h1 h2;have h3:=hdn (DB h1);rw[hxt,De,<-this,<-h3];omega
    by_cases hr:q<=mx
    ·have Ll:decide ((q:Int)>(mx:Int))=false:=decide_eq_false (by omega);push_cast -dsimp(maxSteps:=9^7) [cx,ed,rk,e16,aAm,ek,Vf,eq,elt,Ll,ef,QQ,e1,e2,edn];exact⟨⟨by omega,by omega⟩,⟨i+1,q,rfl,rfl,by omega,hr,OO,eV,oE⟩,by rw[aEG];simp only[intOf];omega⟩
    have Ll:decide ((q:Int)>(mx:Int))=true:=decide_eq_true (by omega);push_cast -dsimp(maxSteps:=9^7) [cx,ed,rk,e16,aAm,ek,Vf,eq,elt,Ll,ef,QQ,e1,e2,edn];refine⟨⟨mx,_,rfl,by omega,.inr (.inl rfl),λn hn h=>?_⟩,eV⟩;have h1:=OO (by rw[h];exact fo hn) (by rw[h,jU hn];exact hn);have h2:=Df s (i+1);have h3:=jU hn;rw[<-h]at h3;omega
   have ed:decide ((dn:Int)>=16)=true:=decide_eq_true (by omega);push_cast -dsimp(maxSteps:=9^7) [cx,ed,e16,ef,QQ,e1,e2,edn];refine⟨⟨0,_,rfl,by omega,.inr (.inr rfl),λn hn h=>?_⟩,eV⟩;have h3:=hdn (DB (by rw[h];exact fo hn));have h4:=DB (by rw[h];exact fo hn);rw[JC,Bool.or_eq_true,Bool.and_eq_true,Bool.and_eq_true,decide_eq_true_eq,decide_eq_true_eq,decide_eq_true_eq,decide_eq_true_eq]at h4;rw[Wh]at h3;split at h3<;>omega
  by_cases hB:97<=lo/\lo<=122
  ·have QQ:decide ((b:Int)=95)=false:=decide_eq_false (λh=>by have:=CV (by omega);omega);have e1:decide (48<=(b:Int))=true:=decide_eq_true (Classical.byContradiction λh=>by have:=OM (by omega);omega);have e2:decide ((b:Int)<=57)=false:=decide_eq_false (λh=>hA ⟨Classical.byContradiction λh=>by have:=OM (by omega);omega,by omega⟩);have e3:decide (97<=(lo:Int))=true:=decide_eq_true (by omega);have e4:decide ((lo:Int)<=122)=true:=decide_eq_true (by omega);have H2:∃dn:Nat,lo-87=dn:=⟨_,rfl⟩;obtain⟨dn,aJJ⟩:=H2;have aNY:∃l2:Nat,lo-97=l2:=⟨_,rfl⟩;obtain⟨l2,aUc⟩:=aNY;have edn:IntKind.u8.wrap ((lo:Int)-97)=(l2:Int):=by
    rw[show (lo:Int)-97=(l2:Int) by omega,fT,Nat.mod_eq_of_lt (by omega)]
   have aEu:IntKind.u8.wrap ((l2:Int)+10)=(dn:Int):=by
    rw[show (l2:Int)+10=(dn:Int) by omega,fT,Nat.mod_eq_of_lt (by omega)]
   have hdn:mT x=true->dn=dv x:=λh=>by
    rw[JC,Bool.or_eq_true,Bool.and_eq_true,Bool.and_eq_true,decide_eq_true_eq,decide_eq_true_eq,decide_eq_true_eq,decide_eq_true_eq]at h;have h5:=oy (by omega) (by omega);rw[Wh,if_neg (by omega)];omega
   push_cast -dsimp(maxSteps:=9^7) [cx,QQ,e1,e2,ef];refine aA (lZ (b:Int) wx) ?_;rintro _ w2 ⟨rfl,rfl⟩;rw[hl];push_cast -dsimp(maxSteps:=9^7) [e3,ef];refine aA (lZ (b:Int) w2) ?_;rintro _ w3 ⟨rfl,rfl⟩;rw[hl];push_cast -dsimp(maxSteps:=9^7) [e4,ef];refine aA (lZ (b:Int) w3) ?_;rintro _ w4 ⟨rfl,rfl⟩;rw[hl];by_cases hd:dn<16
   ·have ed:decide ((dn:Int)>=16)=false:=decide_eq_false (by omega);have Vf:IntKind.u64.wrap (dn:Int)=(dn:Int):=by rw[fS,Nat.mod_eq_of_lt (by omega)]
    have hgq:∃q,k+dn=q:=⟨_,rfl⟩;obtain⟨q,hq⟩:=hgq;have eq:IntKind.u64.wrap ((k:Int)+(dn:Int))=(q:Int):=by
     rw[show (k:Int)+(dn:Int)=(q:Int) by omega,fS,Nat.mod_eq_of_lt (by omega)]
    have elt:decide ((q:Int)<(k:Int))=false:=decide_eq_false (by omega);have OO:(∀b∈s,mT b=true)->iT s<4294967296->q=iT (s.take (i+1)):=λh1 h2=>by
     have:=hv h1 h2;have h3:=hdn (DB h1);rw[hxt,De,<-this,<-h3];omega
    by_cases hr:q<=mx
    ·have Ll:decide ((q:Int)>(mx:Int))=false:=decide_eq_false (by omega);push_cast -dsimp(maxSteps:=9^7) [cx,ed,rk,e16,aAm,ek,Vf,eq,elt,Ll,ef,edn,aEu];exact⟨⟨by omega,by omega⟩,⟨i+1,q,rfl,rfl,by omega,hr,OO,eV,oE⟩,by rw[aEG];simp only[intOf];omega⟩
    have Ll:decide ((q:Int)>(mx:Int))=true:=decide_eq_true (by omega);push_cast -dsimp(maxSteps:=9^7) [cx,ed,rk,e16,aAm,ek,Vf,eq,elt,Ll,ef,edn,aEu];refine⟨⟨mx,_,rfl,by omega,.inr (.inl rfl),λn hn h=>?_⟩,eV⟩;have h1:=OO (by rw[h];exact fo hn) (by rw[h,jU hn];exact hn);have h2:=Df s (i+1);have h3:=jU hn;rw[<-h]at h3;omega
   have ed:decide ((dn:Int)>=16)=true:=decide_eq_true (by omega);push_cast -dsimp(maxSteps:=9^7) [cx,ed,e16,ef,edn,aEu];refine⟨⟨0,_,rfl,by omega,.inr (.inr rfl),λn hn h=>?_⟩,eV⟩;have h3:=hdn (DB (by rw[h];exact fo hn));have h4:=DB (by rw[h];exact fo hn);rw[JC,Bool.or_eq_true,Bool.and_eq_true,Bool.and_eq_true,decide_eq_true_eq,decide_eq_true_eq,decide_eq_true_eq,decide_eq_true_eq]at h4;rw[Wh]at h3;split at h3<;>omega
  by_cases h95:b=95
  ·have:=CV h95;have QQ:decide ((b:Int)=95)=true:=decide_eq_true (by omega);have e1:decide (48<=(b:Int))=true:=decide_eq_true (by omega);have e2:decide ((b:Int)<=57)=false:=decide_eq_false (by omega);have e3:decide (97<=(lo:Int))=true:=decide_eq_true (by omega);have e4:decide ((lo:Int)<=122)=false:=decide_eq_false (by omega);push_cast -dsimp(maxSteps:=9^7) [cx,QQ,e1,e2,ef];refine aA (lZ (b:Int) wx) ?_;rintro _ w2 ⟨rfl,rfl⟩;rw[hl];push_cast -dsimp(maxSteps:=9^7) [e3,ef];refine aA (lZ (b:Int) w2) ?_;rintro _ w3 ⟨rfl,rfl⟩;rw[hl];push_cast -dsimp(maxSteps:=9^7) [e4,ef];refine⟨⟨0,_,rfl,by omega,.inr (.inr rfl),λn hn h=>?_⟩,eV⟩
   have:=DB (by rw[h];exact fo hn);rw[JC,Bool.or_eq_true,Bool.and_eq_true,Bool.and_eq_true,decide_eq_true_eq,decide_eq_true_eq,decide_eq_true_eq,decide_eq_true_eq]at this;omega
  rcases Nat.lt_or_ge b 48 with h48|h48
  ·have:=OM h48;have QQ:decide ((b:Int)=95)=false:=decide_eq_false (by omega);have e1:decide (48<=(b:Int))=false:=decide_eq_false (by omega);have e2:decide ((b:Int)<=57)=true:=decide_eq_true (by omega);have e3:decide (97<=(lo:Int))=false:=decide_eq_false (by omega);push_cast -dsimp(maxSteps:=9^7) [cx,QQ,e1,e2,ef];refine aA (lZ (b:Int) wx) ?_;rintro _ w2 ⟨rfl,rfl⟩;rw[hl];push_cast -dsimp(maxSteps:=9^7) [e3,ef];refine⟨⟨0,_,rfl,by omega,.inr (.inr rfl),λn hn h=>?_⟩,eV⟩
   have:=DB (by rw[h];exact fo hn);rw[JC,Bool.or_eq_true,Bool.and_eq_true,Bool.and_eq_true,decide_eq_true_eq,decide_eq_true_eq,decide_eq_true_eq,decide_eq_true_eq]at this;omega
  rcases Nat.lt_or_ge lo 97 with h97|h97
  ·skip;have QQ:decide ((b:Int)=95)=false:=decide_eq_false (by omega);have e1:decide (48<=(b:Int))=true:=decide_eq_true (by omega);have e2:decide ((b:Int)<=57)=false:=decide_eq_false (by omega);have e3:decide (97<=(lo:Int))=false:=decide_eq_false (by omega);push_cast -dsimp(maxSteps:=9^7) [cx,QQ,e1,e2,ef];refine aA (lZ (b:Int) wx) ?_;rintro _ w2 ⟨rfl,rfl⟩;rw[hl];push_cast -dsimp(maxSteps:=9^7) [e3,ef];refine⟨⟨0,_,rfl,by omega,.inr (.inr rfl),λn hn h=>?_⟩,eV⟩
   have:=DB (by rw[h];exact fo hn);rw[JC,Bool.or_eq_true,Bool.and_eq_true,Bool.and_eq_true,decide_eq_true_eq,decide_eq_true_eq,decide_eq_true_eq,decide_eq_true_eq]at this;omega
  skip;have QQ:decide ((b:Int)=95)=false:=decide_eq_false (by omega);have e1:decide (48<=(b:Int))=true:=decide_eq_true (by omega);have e2:decide ((b:Int)<=57)=false:=decide_eq_false (by omega);have e3:decide (97<=(lo:Int))=true:=decide_eq_true (by omega);have e4:decide ((lo:Int)<=122)=false:=decide_eq_false (by omega);push_cast -dsimp(maxSteps:=9^7) [cx,QQ,e1,e2,ef];refine aA (lZ (b:Int) wx) ?_;rintro _ w2 ⟨rfl,rfl⟩;rw[hl];push_cast -dsimp(maxSteps:=9^7) [e3,ef];refine aA (lZ (b:Int) w2) ?_;rintro _ w3 ⟨rfl,rfl⟩;rw[hl];push_cast -dsimp(maxSteps:=9^7) [e4,ef];refine⟨⟨0,_,rfl,by omega,.inr (.inr rfl),λn hn h=>?_⟩,eV⟩
  have:=DB (by rw[h];exact fo hn);rw[JC,Bool.or_eq_true,Bool.and_eq_true,Bool.and_eq_true,decide_eq_true_eq,decide_eq_true_eq,decide_eq_true_eq,decide_eq_true_eq]at this;omega
 refine⟨⟨m,_,rfl,by omega,.inl rfl,λn hn h=>⟨?_,rfl⟩⟩,eV⟩
 have:=hv (by rw[h];exact fo hn) (by rw[h,jU hn];exact hn);rw[this,List.take_of_length_le (by omega),h,jU hn]
end Go.Proofs.YtemjejfpadnljaaGreatDoor
namespace Cae
def dI (s:List UInt8)(l:List Rg):Prop:=aO (-2) l=true/\gU l=s
theorem GV {n:Nat}(hn:n<4294967296){c:UInt8}(hc:mT c=false):(gk n).contains c=false:=by
 cases h:(gk n).contains c with
 | false=>rfl
 | true =>
  have hm:c∈gk n:=by simpa using h
  have:=fo hn c hm;rw[hc]at this;cases this
theorem ot (a b:List UInt8)(c:UInt8):(a++b).contains c=(a.contains c || b.contains c):=by
 induction a with
 | nil=>simp
 | cons x a ih=>rw[List.cons_append,List.contains_cons,List.contains_cons,ih,Bool.or_assoc]
theorem aGH {r:Rg}(h0:0<=r.1)(h1:r.1<4294967296)(h2:r.2<4294967296):(ry r).contains 32=false:=by
 unfold ry;rw[ot,GV (by omega) (by rfl)];split
 ·rw[List.contains_cons,GV (by omega) (by rfl)];rfl
 rfl
theorem aGG (r:Rg):ry r≠[]:=by
 unfold ry;intro h;exact yh _ (List.append_eq_nil_iff.1 h).1
theorem Bq {c:UInt8}:∀{a b:List UInt8},a.contains c=false->(a++c::b).takeWhile (· != c)=a/\(a++c::b).dropWhile (· != c)=c::b
 | [],b,_=>by simp
 | x::a,b,h=>by
  rw[List.contains_cons,Bool.or_eq_false_iff]at h;have h1:(x != c)=true:=by have:=h.1;simp at this;simp;exact λe=>this e.symm
  have ih:=Bq (b:=b) h.2;rw[List.cons_append,List.takeWhile_cons,List.dropWhile_cons,if_pos h1,if_pos h1,ih.1,ih.2];exact⟨rfl,rfl⟩
theorem Yv {c:UInt8}{a:List UInt8}(h:a.contains c=false):splitB c a=[a]:=by
 rw[r6,h,NX h];rfl
theorem TQ {c:UInt8}{a b:List UInt8}(h:a.contains c=false):splitB c (a++c::b)=a::splitB c b:=by
 rw[r6,(Bq h).1,(Bq h).2];have:(a++c::b).contains c=true:=by rw[ot];simp
 rw[if_pos this];rfl
theorem Bl {c:UInt8}:∀(x:List UInt8) (l:List (List UInt8)),(∀p∈x::l,p.contains c=false)->splitB c (Go.Lib.join (x::l) [c])=x::l
 | x,[],h=>by rw[Go.Lib.join_one];exact Yv (h x (by simp))
 | x,y::l,h=>by
  have e:Go.Lib.join (x::y::l) [c]=x++c::Go.Lib.join (y::l) [c]:=by
   rw[Go.Lib.join_cons,Go.Lib.join_cons];simp[Go.Lib.joinTail]
  rw[e,TQ (h x (by simp)),Bl y l (λp hp=>h p (List.mem_cons_of_mem _ hp))]
theorem Li {r:Rg}(h0:0<=r.1)(h1:r.1<4294967296)(h2:r.2<4294967296)(ao:r.1<r.2):mI 45 (ry r)=(gk r.1.toNat,gk r.2.toNat,true):=by
 have hn:=GV (n:=r.1.toNat) (c:=45) (by omega) (by rfl);have e:ry r=gk r.1.toNat++45::gk r.2.toNat:=by unfold ry;rw[if_pos ao]
 unfold mI;rw[e,(Bq hn).1,(Bq hn).2,ot];simp
theorem FJ {r:Rg}(h0:0<=r.1)(h1:r.1<4294967296)(ao:¬r.1<r.2):mI 45 (ry r)=(gk r.1.toNat,[],false):=by
 have hn:=GV (n:=r.1.toNat) (c:=45) (by omega) (by rfl);have e:ry r=gk r.1.toNat:=by unfold ry;rw[if_neg ao,List.append_nil]
 unfold mI;rw[e,hn];rfl
theorem rS:∀{s:List Rg} {a:Int},-2<=a->aO a s=true->∀r∈s,0<=r.1/\r.1<=r.2/\r.2<=1114111
 | [],_,_,_=>λr hr=>by cases hr
 | q::s,a,ha,h=>by
  rw[br]at h;intro r hr;rcases List.mem_cons.1 hr with rfl|hr
  ·omega
  exact rS (by omega) h.2 r hr
def lA (l:List Rg):List UInt8:=Go.Lib.join (l.map ry) [32]
theorem vi {l:List Rg}(h:lA l=[]):l=[]:=by
 cases l with
 | nil=>rfl
 | cons r l =>
  unfold lA at h;rw[List.map_cons,Go.Lib.join_cons]at h;exact absurd (List.append_eq_nil_iff.1 h).1 (aGG r)
theorem tV {l:List Rg}(h:aO (-2) l=true)(cY:lA l≠[]):splitB 32 (lA l)=l.map ry:=by
 cases l with
 | nil=>exact absurd rfl cY
 | cons r l =>
  unfold lA;rw[List.map_cons];refine Bl _ _ λp hp=>?_;rw[<-List.map_cons]at hp;obtain⟨q,hq,rfl⟩:=List.mem_map.1 hp
  have:=rS (by omega) h q hq;exact aGH (by omega) (by omega) (by omega)
theorem rW {s:List UInt8}{l:List Rg}(h:dI s l):Go.Lib.hasPrefix s [91]=true/\Go.Lib.hasSuffix (Go.Lib.trimPrefix s [91]) [93]=true/\Go.Lib.trimSuffix (Go.Lib.trimPrefix s [91]) [93]=lA l:=by
 obtain⟨hr,rfl⟩:=h;have h1:Go.Lib.hasPrefix (gU l) [91]=true:=by simp[Go.Lib.hasPrefix,gU]
 have h2:Go.Lib.trimPrefix (gU l) [91]=lA l++[93]:=by
  unfold Go.Lib.trimPrefix;rw[h1];rfl
 have h3:Go.Lib.hasSuffix (lA l++[93]) [93]=true:=by
  unfold Go.Lib.hasSuffix;rw[List.isSuffixOf_iff_suffix];exact⟨lA l,rfl⟩
 rw[h2];refine⟨h1,h3,?_⟩;unfold Go.Lib.trimSuffix;rw[h3,if_pos rfl];simp
theorem xo {body x:List UInt8}{pre:List (List UInt8)}{l:List Rg}(h:aO (-2) l=true)(hb:body=lA l)(cY:body≠[])(hp:pre++[x] <+: splitB 32 body):∃r,l[pre.length]?=some r/\x=ry r/\0<=r.1/\r.1<=r.2/\r.2<=1114111:=by
 subst hb;rw[tV h cY]at hp;obtain⟨rest,hr⟩:=hp;have h1:(l.map ry)[pre.length]?=some x:=by rw[<-hr,List.append_assoc];simp
 rw[List.getElem?_map]at h1;cases hl:l[pre.length]? with
 | none=>rw[hl]at h1;cases h1
 | some r =>
  rw[hl]at h1;cases h1;exact⟨r,rfl,rfl,rS (by omega) h r (List.mem_of_getElem? hl)⟩
structure Tok where
 kind:Nat
 text:List UInt8
 pos:Nat
 deriving DecidableEq
inductive ax where
 | lit (pos:Nat) (s:List Rg)
 | ref (pos:Nat) (name:List UInt8)
 | not (pos:Nat) (l:ax)
 | bin (code:Nat) (pos:Nat) (l r:ax)
inductive aG where
 | one (k:ax)
 | any
 | gh
 | cat (l:List aG)
 | alt (l:List aG)
 | many (x:aG) (lo hi:Int)
structure dJ where
 pos:Nat
 brk:Bool
 before:aG
 after:aG
structure fD where
 name:List UInt8
 pos:Nat
 kind:ax
structure de where
 cO:List fD
 rules:List dJ
 dG:Bool
def jY (c:UInt8):Bool:=decide (97<=c.toNat) && decide (c.toNat<=122)
def eL (c:UInt8):Bool:=decide (48<=c.toNat) && decide (c.toNat<=57)
def J5:List UInt8:=[61,59,58,124,38,45,126,40,41,46,42,43,63,123,125,44,36]
def jo (f:UInt8->Bool)(s:List UInt8):Nat:=(s.takeWhile f).length
def gp (s:List UInt8):Nat×Nat :=
 let c:=s.headD 0
 if jY c then (1,jo (λc=>jY c || eL c) s)
 else if eL c then (2,jo eL s)
 else if c=91 then (3,if s.contains 93 then jo (· != 93) s+1 else 0)
 else if J5.contains c then (4,1)
 else (4,0)
def lh:Nat->Nat->List UInt8->List Tok->Except (Nat×Nat) (List Tok)
 | 0,i,s,acc=>.error (0,0)
 | n+1,i,[],acc=>.ok (acc++[⟨5,[],i⟩])
 | n+1,i,c::r,acc =>
  if c=32\/c=10 then lh n (i+1) r acc
  else if c=35 then lh n (i+jo (· != 10) (c::r)) ((c::r).drop (jo (· != 10) (c::r))) acc
  else if (gp (c::r)).2=0 then .error (3,i)
  else if acc.length=500 then .error (4,i)
  else lh n (i+(gp (c::r)).2) ((c::r).drop (gp (c::r)).2) (acc++[⟨(gp (c::r)).1,(c::r).take (gp (c::r)).2,i⟩])
def TV (s:List UInt8):Except (Nat×Nat) (List Tok):=lh (s.length+1) 0 s []
def HI (s:List UInt8):Option (List Rg) :=
 let body:=(s.drop 1).dropLast
 let l:List Rg:=if body=[] then [] else (splitB 32 body).map λp=>(((iT (mI 45 p).1:Nat):Int),if (mI 45 p).2.2 then ((iT (mI 45 p).2.1:Nat):Int) else ((iT (mI 45 p).1:Nat):Int))
 if aO (-2) l && gU l == s then some l else none
abbrev Pa (α:Type):=List Tok->Except (Nat×Nat) (α×List Tok)
def hd (l:List Tok):Tok:=l.headD ⟨5,[],0⟩
def pb {α β:Type}(p:Pa α)(q:α->Pa β):Pa β:=λl=>match p l with
 | .error e=>.error e
 | .ok (x,l')=>q x l'
def pr {α:Type}(x:α):Pa α:=λl=>.ok (x,l)
def dt {α:Type}(e:Nat):Pa α:=λl=>.error (e,(hd l).pos)
def ay {α:Type}(c:List Tok->Bool)(p q:Pa α):Pa α:=λl=>if c l then p l else q l
def dY:Pa Tok:=λl=>.ok (hd l,l)
def cL:Pa Unit:=λl=>match l with
 | []=>.error (0,0)
 | t::r=>if t.kind=5 then .error (0,0) else .ok ((),r)
def isKind (k:Nat)(l:List Tok):Bool:=(hd l).kind == k
def dT (s:List UInt8)(l:List Tok):Bool:=(hd l).kind != 5 && (hd l).text == s
def cg (s:List UInt8):Pa Unit:=ay (dT s) cL (dt 3)
def Ae (s:List UInt8):Bool:=s == [99,108,97,115,115] || s == [98,114,101,97,107] || s == [107,101,101,112] || s == [101,108,115,101]
def jZ (l:List Tok):Bool:=(hd l).kind == 1 && !Ae (hd l).text
def Dx (l:List Tok):Bool:=decide (10<(hd l).text.length)
def mW:Pa (List UInt8):=ay jZ (ay Dx (dt 4) (pb dY λt=>pb cL λ_=>pr t.text)) (dt 3)
def tq:Pa Nat:=ay (dT [124]) (pb cL λ_=>pr 3) (ay (dT [38]) (pb cL λ_=>pr 4) (ay (dT [45]) (pb cL λ_=>pr 5) (pr 0)))
def dN (one:Pa ax)(pos:Nat):Nat->ax->Pa ax
 | 0,k=>dt 0
 | n+1,k=>pb tq λc=>if c=0 then pr k else pb one λr=>dN one pos n (.bin c pos k r)
def sM (one:Pa ax):Pa ax:=pb dY λt=>pb one λk=>dN one t.pos 1000 k
def G9:Pa ax:=pb dY λt=>match HI t.text with
 | none=>dt 3
 | some s=>pb cL λ_=>pr (.lit t.pos s)
def kZ:Nat->Pa ax
 | 0=>dt 4
 | d+1=>ay (isKind 3) G9 (ay (dT [126]) (pb dY λt=>pb cL λ_=>pb (kZ d) λk=>pr (.not t.pos k))
  (ay (dT [40]) (pb cL λ_=>pb (sM (kZ d)) λk=>pb (cg [41]) λ_=>pr k)
   (pb dY λt=>pb mW λn=>pr (.ref t.pos n))))
def qi (d:Nat):Pa ax:=sM (kZ d)
def yI (s:List UInt8):Nat:=s.foldl (λm b=>10*m+(b.toNat-48)) 0
def j5:Pa Nat:=ay (isKind 2) (pb dY λt=>if 12<yI t.text then dt 4 else pb cL λ_=>pr (yI t.text)) (dt 3)
def dA:Pa (Int×Int):=pb j5 λlo=>ay (dT [44])
 (pb cL λ_=>ay (isKind 2)
  (pb j5 λhi=>if hi<lo then dt 2 else pb (cg [125]) λ_=>pr ((lo:Int),(hi:Int)))
  (pb (cg [125]) λ_=>pr ((lo:Int),-1)))
 (pb (cg [125]) λ_=>pr ((lo:Int),(lo:Int)))
def eJ:Pa (Option (Int×Int)) :=
 ay (dT [42]) (pb cL λ_=>pr (some (0,-1)))
 (ay (dT [43]) (pb cL λ_=>pr (some (1,-1)))
 (ay (dT [63]) (pb cL λ_=>pr (some (0,1)))
 (ay (dT [123]) (pb cL λ_=>pb dA λr=>pr (some r)) (pr none))))
def bX (d:Nat):Nat->Nat->aG->Pa aG
 | 0,c,x=>dt 0
 | n+1,c,x=>pb eJ λr=>match r with
  | none=>pr x
  | some q=>if d<=c+1 then dt 4 else bX d n (c+1) (.many x q.1 q.2)
def aY (d:Nat)(unit:Pa aG):Pa aG:=pb unit λx=>bX d 1000 0 x
def kj (l:List Tok):Bool:=isKind 3 l || jZ l || dT [46] l || dT [36] l || dT [40] l
def bF (again:Pa aG):Nat->List aG->Pa (List aG)
 | 0,acc=>dt 0
 | n+1,acc=>ay kj (pb again λx=>bF again n (acc++[x])) (pr acc)
def rowOf:List aG->aG
 | [x]=>x
 | l=>.cat l
def jO:List aG->aG
 | [x]=>x
 | l=>.alt l
def iI (again:Pa aG):Pa aG:=pb (bF again 1000 []) λps=>pr (rowOf ps)
def eS (row:Pa aG):Nat->List aG->Pa (List aG)
 | 0,acc=>dt 0
 | n+1,acc=>ay (dT [124]) (pb cL λ_=>pb row λx=>eS row n (acc++[x])) (pr acc)
def LR (row:Pa aG):Pa aG:=pb row λx=>pb (eS row 1000 [x]) λps=>pr (jO ps)
def BF (d:Nat)(unit:Pa aG):Pa aG:=if d=0 then dt 4 else LR (iI (aY d unit))
def jG (l:List Tok):Bool:=isKind 3 l || jZ l
def aw:Nat->Pa aG
 | 0=>dt 4
 | d+1=>ay (dT [46]) (pb cL λ_=>pr .any)
  (ay (dT [36]) (pb cL λ_=>pr .gh)
  (ay (dT [40]) (pb cL λ_=>pb (BF d (aw d)) λx=>pb (cg [41]) λ_=>pr x)
  (ay jG (pb (kZ (d+1)) λk=>pr (.one k)) (dt 3))))
def qu (d:Nat):Pa aG:=BF d (aw d)
def nW:Pa fD:=pb dY λt=>pb (cg [99,108,97,115,115]) λ_=>pb mW λn=>pb (cg [61]) λ_=>pb (qi 9) λk=>pb (cg [59]) λ_=>pr ⟨n,t.pos,k⟩
def bU:Nat->List fD->Pa (List fD)
 | 0,acc=>dt 0
 | n+1,acc=>ay (dT [99,108,97,115,115]) (if acc.length=20 then dt 4 else pb nW λc=>bU n (acc++[c])) (pr acc)
def gW:Pa Bool:=ay (dT [98,114,101,97,107]) (pb cL λ_=>pr true) (pb (cg [107,101,101,112]) λ_=>pr false)
def lL:Pa dJ:=pb dY λt=>pb gW λb=>pb (qu 9) λx=>pb (cg [58]) λ_=>pb (qu 9) λy=>pb (cg [59]) λ_=>pr ⟨t.pos,b,x,y⟩
def iA (l:List Tok):Bool:=dT [98,114,101,97,107] l || dT [107,101,101,112] l
def bT:Nat->List dJ->Pa (List dJ)
 | 0,acc=>dt 0
 | n+1,acc=>ay iA (if acc.length=20 then dt 4 else pb lL λr=>bT n (acc++[r])) (pr acc)
def nz:Pa Bool:=ay (dT [101,108,115,101]) (pb cL λ_=>pb gW λb=>pb (cg [59]) λ_=>pr b) (pr true)
def jC:Pa de:=pb (bU 1000 []) λcs=>pb (bT 1000 []) λrs=>pb nz λb=>pr ⟨cs,rs,b⟩
def da (s:List UInt8):Except (Nat×Nat) de:=match TV s with
 | .error e=>.error e
 | .ok l=>match jC l with
  | .error e=>.error e
  | .ok (f,l')=>if isKind 5 l' then .ok f else .error (3,(hd l').pos)
def e9:ax->Bool->List UInt8
 | .lit _ s,_=>gU s
 | .ref _ n,_=>n
 | .not _ l,_=>126::e9 l true
 | .bin c _ l r,alone =>
  let m:List UInt8:=if c=3 then [32,124,32] else if c=4 then [32,38,32] else [32,45,32]
  let s:=e9 l false++m++e9 r true
  if alone then 40::(s++[41]) else s
def QN (n:Nat):List UInt8:=if n<10 then [QO n] else if n<100 then [QO (n / 10),QO (n % 10)] else []
def xB (lo hi:Int):List UInt8 :=
 if lo=0/\hi<0 then [42] else if lo=1/\hi<0 then [43] else if lo=0/\hi=1 then [63]
 else if hi<0 then 123::(QN lo.toNat++[44,125])
 else if hi=lo then 123::(QN lo.toNat++[125])
 else 123::(QN lo.toNat++44::(QN hi.toNat++[125]))
def qe (b:Bool)(s:List UInt8):List UInt8:=if b then 40::(s++[41]) else s
mutual
def ag:aG->Nat->List UInt8
 | .one k,_=>e9 k true
 | .any,_=>[46]
 | .gh,_=>[36]
 | .cat l,least=>qe (decide (1<least)) (Go.Lib.join (bC l 2) [32])
 | .alt l,least=>qe (decide (0<least)) (Go.Lib.join (bC l 1) [32,124,32])
 | .many x lo hi,_=>ag x 2++xB lo hi
def bC:List aG->Nat->List (List UInt8)
 | [],_=>[]
 | x::l,least=>ag x least::bC l least
end
def vk (c:fD):List UInt8:=[99,108,97,115,115,32]++c.name++[32,61,32]++e9 c.kind false++[59,10]
def ft (r:dJ):List UInt8 :=
 (if r.brk then [98,114,101,97,107,32] else [107,101,101,112,32])
  ++ (if ag r.before 0=[] then [] else ag r.before 0++[32])++[58]++(if ag r.after 0=[] then [] else 32::ag r.after 0)++[59,10]
def uE (b:Bool):List UInt8:=if b then [] else [101,108,115,101,32,107,101,101,112,59,10]
def mM (f:de):List UInt8:=(f.cO.flatMap vk)++(f.rules.flatMap ft)++uE f.dG
def nR (bV:List Int)(back:Bool)(i:Nat):Option (Nat×Int) :=
 if back then (if i=0 then none else (bV[i-1]?).map λp=>(i-1,p)) else (bV[i]?).map λp=>(i+1,p)
def iterM (R:Nat->Nat->Prop):Nat->Nat->Nat->Prop
 | 0,i,j=>i=j
 | n+1,i,j=>∃m,R i m/\iterM R n m j
section
variable (has:ax->Int->Prop) (bV:List Int) (back:Bool)
mutual
def pk:aG->Nat->Nat->Prop
 | .one k,i,j=>∃p,nR bV back i=some (j,p)/\has k p
 | .any,i,j=>∃p,nR bV back i=some (j,p)
 | .gh,i,j=>i=j/\nR bV back i=none
 | .cat l,i,j=>if back then yF l i j else yG l i j
 | .alt l,i,j=>Ch l i j
 | .many x lo hi,i,j=>∃n:Nat,lo<=n/\(hi<0\/(n:Int)<=hi)/\iterM (λa b=>pk x a b) n i j
def yG:List aG->Nat->Nat->Prop
 | [],i,j=>i=j
 | x::l,i,j=>∃m,pk x i m/\yG l m j
def yF:List aG->Nat->Nat->Prop
 | [],i,j=>i=j
 | x::l,i,j=>∃m,yF l i m/\pk x m j
def Ch:List aG->Nat->Nat->Prop
 | [],_,_=>False
 | x::l,i,j=>pk x i j\/Ch l i j
end
end
section
variable {has:ax->Int->Prop} {bV:List Int} {back:Bool}
theorem Jw {x:aG}{lo hi:Int}{i j:Nat}:pk has bV back (.many x lo hi) i j↔∃n:Nat,lo<=n/\(hi<0\/(n:Int)<=hi)/\iterM (pk has bV back x) n i j:=by simp only[pk]
theorem pF {R:Nat->Nat->Prop}:∀{n i j:Nat},iterM R (n+1) i j↔∃m,iterM R n i m/\R m j
 | 0,i,j=>by simp[iterM]
 | n+1,i,j=>by
  constructor
  ·rintro⟨a,h1,h2⟩;obtain⟨b,h3,h4⟩:=pF.1 h2;exact⟨b,⟨a,h1,h3⟩,h4⟩
  rintro⟨b,⟨a,h1,h3⟩,h4⟩;exact⟨a,h1,pF.2 ⟨b,h3,h4⟩⟩
theorem vP {i j:Nat}{p:Int}(h:nR bV back i=some (j,p))(hi:i<=bV.length):j<=bV.length:=by
 unfold nR at h;split at h
 ·split at h
  ·cases h
  cases hp:bV[i-1]? with
  | none=>rw[hp]at h;cases h
  | some q=>rw[hp]at h;cases h;omega
 cases hp:bV[i]? with
 | none=>rw[hp]at h;cases h
 | some q =>
  rw[hp]at h;cases h
  have:=(List.getElem?_eq_some_iff.1 hp).1;omega
theorem Aa {R:Nat->Nat->Prop}{N:Nat}(h:∀i j,i<=N->R i j->j<=N):∀{n i j:Nat},i<=N->iterM R n i j->j<=N
 | 0,_,_,hi,e=>by cases e;exact hi
 | n+1,_,_,hi,⟨m,h1,h2⟩=>Aa h (h _ _ hi h1) h2
mutual
theorem wS:∀(x:aG) {i j:Nat},i<=bV.length->pk has bV back x i j->j<=bV.length
 | .one k,i,j,hi,h=>by simp only[pk]at h;obtain⟨p,h,_⟩:=h;exact vP h hi
 | .any,i,j,hi,h=>by simp only[pk]at h;obtain⟨p,h⟩:=h;exact vP h hi
 | .gh,i,j,hi,h=>by simp only[pk]at h;omega
 | .cat l,i,j,hi,h=>by
  simp only[pk]at h;split at h
  ·exact Gy l hi h
  exact Ow l hi h
 | .alt l,i,j,hi,h=>by simp only[pk]at h;exact Ov l hi h
 | .many x lo yT,i,j,hi,h=>by
  simp only[pk]at h;obtain⟨n,_,_,h⟩:=h;exact Aa (λa b ha hr=>wS x ha hr) hi h
theorem Ow:∀(l:List aG) {i j:Nat},i<=bV.length->yG has bV back l i j->j<=bV.length
 | [],i,j,hi,h=>by simp only[yG]at h;omega
 | x::l,i,j,hi,h=>by simp only[yG]at h;obtain⟨m,h1,h2⟩:=h;exact Ow l (wS x hi h1) h2
theorem Gy:∀(l:List aG) {i j:Nat},i<=bV.length->yF has bV back l i j->j<=bV.length
 | [],i,j,hi,h=>by simp only[yF]at h;omega
 | x::l,i,j,hi,h=>by simp only[yF]at h;obtain⟨m,h1,h2⟩:=h;exact wS x (Gy l hi h1) h2
theorem Ov:∀(l:List aG) {i j:Nat},i<=bV.length->Ch has bV back l i j->j<=bV.length
 | [],i,j,hi,h=>by simp only[Ch]at h
 | x::l,i,j,hi,h=>by
  simp only[Ch]at h;rcases h with h|h
  ·exact wS x hi h
  exact Ov l hi h
end
end
mutual
def aKK:aG->aG
 | .one k=>.one k
 | .any=>.any
 | .gh=>.gh
 | .cat l=>.cat (Xf l).reverse
 | .alt l=>.alt (Xf l)
 | .many x lo hi=>.many (aKK x) lo hi
def Xf:List aG->List aG
 | []=>[]
 | x::l=>aKK x::Xf l
end
open Classical
section
variable (has:ax->Int->Prop) (bV:List Int)
def lg (x:aG)(i:Nat)(back:Bool):Prop:=∃j,pk has bV back x i j
def SH (r:dJ)(i:Nat):Prop:=lg has bV r.before i true/\lg has bV r.after i false
noncomputable def BU (dG:Bool)(i:Nat):List dJ->Bool
 | []=>dG
 | r::l=>if SH has bV r i then r.brk else BU dG i l
noncomputable def isM (rules:List dJ)(dG:Bool)(i:Nat):Bool:=BU has bV dG i rules || decide (i=0) || decide (i=bV.length)
noncomputable def tw (rules:List dJ)(dG:Bool):List Nat:=if bV=[] then [] else (List.range (bV.length+1)).filter (isM has bV rules dG)
end
end Cae
