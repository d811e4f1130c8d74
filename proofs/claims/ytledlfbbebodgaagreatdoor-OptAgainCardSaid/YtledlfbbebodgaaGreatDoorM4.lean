/- Texts of this claim, merged: Vo, Vw, So0, Hex, Join, Sprint, Cut, Byt, Pint, Ppar, Prul, Pmean. -/
import Derived.Test.YtledlfbbebodgaaGreatDoorM3
import Derived.Shelf.Strings.OnBuilder
import Derived.Shelf.Strings.Search3
import Derived.Shelf.Small.Wraps
import Derived.Lib.IfaceEq
import Derived.Lib.IfaceNeq
set_option maxRecDepth 100000
set_option linter.unusedSimpArgs false
set_option linter.unusedVariables false
set_option maxHeartbeats 8000000
section
namespace Go.Vc
open Go.RowKit
theorem aLH {L:VP}{other:Prop}(c:Bool)(n k n' k':Nat)(p):cK 3 c .eql (.slice none n k) (.slice none n' k') L other p=L (.bool true):=by cases c<;>rfl
theorem aHI {L:VP}{other:Prop}(c:Bool)(a:Addr)(n k n' k':Nat)(p):cK 3 c .eql (.slice (some a) n k) (.slice none n' k') L other p=L (.bool false):=by cases c<;>rfl
theorem qe {α β:Type}{w:World}{base NJ k k':Nat}{e e':TypeId}{enc:α->List Value}{aLG:β->List Value}{v v':Value}{l:List α}{l':List β}(h:Vc.Own base e k enc w v l)(h':Vc.Own NJ e' k' aLG w v' l')(dD:e≠e'):∀g,v.ownBlock=some g->v'.ownBlock≠some g:=λg hg vM=>by
 rcases h.1.2 with ⟨he,_⟩|⟨g1,cap,cur,he,_,h1,_⟩
 ·rw[he]at hg;cases hg
 rcases h'.1.2 with ⟨Vt,_⟩|⟨g2,aRo,Ox,Vt,_,h2,_⟩
 ·rw[Vt]at vM;cases vM
 rw[he]at hg;rw[Vt]at vM;have e1:g1=g:=by simpa[Value.ownBlock] using hg
 have e2:g2=g:=by simpa[Value.ownBlock] using vM
 subst e1 e2;rw[h1]at h2;cases h2;exact dD rfl
theorem aKa {α:Type}{f:α->Value}{w:World}{b c n:Nat}{e:TypeId}{l:List α}(hB:aM w b e (l.map f))(hn:n=l.length)(hc:l.length<=c):Sl (λ_=>False) 1 (En (λx=>[f x])) w (.slice (some ⟨b,0,none⟩) n c) l:=by
 subst hn;refine⟨_,_,rfl,hc,λi x hx=>⟨b,0,[f x],rfl,id,rfl,λj u hu=>?_,rfl⟩⟩;cases j with
 | zero =>
  simp at hu;subst hu;rw[Nat.mul_one,Nat.add_zero,Nat.zero_add];exact hB.cell (by rw[List.getElem?_map,hx];rfl)
 | succ j=>simp at hu
theorem Ee {α:Type}[DecidableEq α][BEq α][LawfulBEq α](a b:α):(a == b)=decide (a=b):=by
 by_cases h:a=b
 ·subst h;simp
 rw[decide_eq_false h];exact beq_eq_false_iff_ne.2 h
theorem NK (a b:List UInt8):((⟨a.toArray⟩:ByteArray) == ⟨b.toArray⟩)=decide (a=b):=by
 show (a.toArray == b.toArray)=_
 rw[List.beq_toArray];exact Ee a b
section
set_option linter.unusedSectionVars false
variable {P:Program} {α:Type} [DecidableEq α]
structure tY (P:Program)(kt:TypeId)(key:α->Value):Prop where
 und:∃d,P.underlying kt=some d/\∀a b,Instr.sameNow d (key a) (key b)=some (decide (a=b))
 bits:∀n a,Instr.sameBits n (key a) (key a)=true
 check:∀em n a w,(Instr.checkKey em (n+1) kt (key a)).run P w=.ok () w
theorem MC {kt:TypeId}(hk:P.underlying kt=some (.int .i64)):tY P kt (λn:Nat=>Value.int .i64 (n:Int)) where
 und:=⟨_,hk,λa b=>by simp only[Instr.sameNow,if_true,Option.some.injEq];rw[Ee,decide_eq_decide];exact Int.ofNat_inj⟩
 bits:=λn a=>by cases n<;>simp[Instr.sameBits]
 check:=λem n a w=>by simp[Instr.checkKey,run_underlying hk]
theorem np {kt:TypeId}(hk:P.underlying kt=some .string):tY P kt (λl:List UInt8=>str l) where
 und:=⟨_,hk,λa b=>by
  simp only[str,Instr.sameNow,Option.some.injEq];exact NK a b⟩
 bits:=λn a=>by have:=(NK a a).trans (decide_eq_true rfl);cases n<;>simpa[str,Instr.sameBits] using this
 check:=λem n a w=>by simp[str,Instr.checkKey,run_underlying hk]
def ml (key:α->Value)(w:World)(b:Nat)(gg:List (α×Value)):Prop :=
 ∃(es:Array MapEntry) (clock:Nat),w.heap[b]?=some (.map es clock)/\(es.toList.map λe=>(e.key,e.val))=gg.map λp=>(key p.1,p.2)
def eA (k:α):List (α×Value)->Option Value
 | []=>none
 | p::r=>if k=p.1 then some p.2 else eA k r
def DK (k:α)(v:Value):List (α×Value)->List (α×Value)
 | []=>[(k,v)]
 | p::r=>if k=p.1 then (p.1,v)::r else p::DK k v r
variable {key:α->Value}
theorem ml.kept {X:Nat->Prop}{w w':World}{b:Nat}{gg:List (α×Value)}(h:ml key w b gg)(hk:Kept X w w')(hX:¬X b):ml key w' b gg:=by
 obtain⟨es,clock,h1,h2⟩:=h;exact⟨es,clock,(hk.block b (Array.getElem?_eq_some_iff.1 h1).1 hX).trans h1,h2⟩
theorem ml.lt {w:World}{b:Nat}{gg:List (α×Value)}(h:ml key w b gg):b<w.heap.size:=by
 obtain⟨es,clock,h1,h2⟩:=h;exact(Array.getElem?_eq_some_iff.1 h1).1
theorem ml.below {B:Nat}{w w':World}{b:Nat}{gg:List (α×Value)}(h:ml key w b gg)(hk:Below B w w')(hX:b<B):ml key w' b gg:=by
 obtain⟨es,clock,h1,h2⟩:=h;exact⟨es,clock,(hk.block b hX).trans h1,h2⟩
theorem vY {d:TypeDesc}(hd:∀a b,Instr.sameNow d (key a) (key b)=some (decide (a=b)))(k:α):∀(es:List MapEntry) (gg:List (α×Value)) (i:Nat),(es.map λe=>(e.key,e.val))=(gg.map λp=>(key p.1,p.2)) ->
  ∃r,Instr.findNow d (key k) es i=some r/\((∃j e u,r=some (j,u)/\i<=j/\es[j-i]?=some e/\e.key=key k/\eA k gg=some u/\∀v,(es.modify (j-i) (λe=>{ e with key:=key k,val:=v })).map (λe=>(e.key,e.val))=(DK k v gg).map λp=>(key p.1,p.2)) \/
   (r=none/\eA k gg=none/\∀v,DK k v gg=gg++[(k,v)]))
 | [],[],i,_=>⟨none,rfl,.inr ⟨rfl,rfl,λ_=>rfl⟩⟩
 | [],_::_,_,h=>by simp at h
 | _::_,[],_,h=>by simp at h
 | e::es,p::gg,i,h=>by
  simp only[List.map_cons,List.cons.injEq,Prod.mk.injEq]at h;obtain⟨⟨h1,h2⟩,h3⟩:=h;rw[Instr.findNow,h1,hd];by_cases hx:k=p.1
  ·rw[decide_eq_true hx];refine⟨some (i,e.val),rfl,.inl ⟨i,e,e.val,rfl,Nat.le_refl _,by simp,by rw[h1,hx],by rw[eA,if_pos hx,h2],λv=>?_⟩⟩;rw[Nat.sub_self,DK,if_pos hx];simp[h3,hx]
  rw[decide_eq_false hx];obtain⟨r,hr,hh⟩:=vY hd k es gg (i+1) h3;refine⟨r,hr,?_⟩;rcases hh with ⟨j,e',u,h4,h5,h6,h7,h8,h9⟩|⟨h4,h5,h6⟩
  ·refine .inl ⟨j,e',u,h4,by omega,?_,h7,by rw[eA,if_neg hx,h8],λv=>?_⟩
   ·rw[show j-i=(j-(i+1))+1 by omega]
    simpa using h6
   rw[show j-i=(j-(i+1))+1 by omega,DK,if_neg hx]
   simp only[List.modify_succ_cons,List.map_cons,h1,h2];rw[h9 v]
  exact .inr ⟨h4,by rw[eA,if_neg hx,h5],λv=>by rw[DK,if_neg hx,h6 v];rfl⟩
theorem JM {mt kt et:TypeId}{w:World}{b:Nat}{gg:List (α×Value)}{z:Value}(hm:P.underlying mt=some (.map kt et))(hk:tY P kt key)(hz:(P.info? et).bind (·.zero)=some z)(h:ml key w b gg)(k:α)(c:Bool) :
  (Instr.lookup mt (.map (some b)) (key k) c).run P w=.ok (if c then .tuple #[(eA k gg).getD z,.bool (eA k gg).isSome] else (eA k gg).getD z) w:=by
 obtain⟨es,clock,h1,h2⟩:=h;obtain⟨i,hi,hz⟩:=Option.bind_eq_some_iff.1 hz;obtain⟨d,hd,hs⟩:=hk.und;obtain⟨r,hr,hh⟩:=vY hs k es.toList gg 0 h2;have hck:(Instr.checkKey es.isEmpty 10000 kt (key k)).run P w=.ok () w:=hk.check _ 9999 k w;have hfk:(Instr.findKey kt (key k) es.toList).run P w=.ok r w:=by simp[Instr.findKey,run_underlying hd,hr]
 have ym:(getObj b).run P w=.ok (.map es clock) w:=by simp[getObj,Sem.run,h1]
 rcases hh with ⟨j,e,u,rfl,_,_,_,ha,_⟩|⟨rfl,ha,_⟩
 ·simp[Instr.lookup,run_underlying hm,ym,hck,hfk,ha]
 simp[Instr.lookup,run_underlying hm,ym,hck,hfk,ha,zeroValue,typeInfo,hi,hz]
theorem KU {mt kt et:TypeId}{w:World}{b:Nat}{gg:List (α×Value)}(hm:P.underlying mt=some (.map kt et))(hk:tY P kt key)(h:ml key w b gg)(k:α)(v:Value) :
  ∃w',(Instr.mapUpdate mt (.map (some b)) (key k) v).run P w=.ok () w'/\ml key w' b (DK k v gg)/\Kept (·=b) w w'/\w'.heap.size=w.heap.size:=by
 obtain⟨es,clock,h1,h2⟩:=h;have aw:=(Array.getElem?_eq_some_iff.1 h1).1;obtain⟨d,hd,hs⟩:=hk.und;obtain⟨r,hr,hh⟩:=vY hs k es.toList gg 0 h2;have hck:(Instr.checkKey false 10000 kt (key k)).run P w=.ok () w:=hk.check _ 9999 k w;have hfk:(Instr.findKey kt (key k) es.toList).run P w=.ok r w:=by simp[Instr.findKey,run_underlying hd,hr]
 have ym:(getObj b).run P w=.ok (.map es clock) w:=by simp[getObj,Sem.run,h1]
 have sq:∀o,(setObj b o).run P w=.ok () { w with heap:=w.heap.setIfInBounds b o }:=λo=>by simp[setObj,Sem.run,h1]
 have Na:∀o,Kept (·=b) w { w with heap:=w.heap.setIfInBounds b o }:=λo=>⟨rfl,rfl,rfl,by simp,λi hi dD=>by simp[Array.getElem?_setIfInBounds,Ne.symm dD]⟩;rcases hh with ⟨j,e,u,rfl,_,he,hek,ha,hp⟩|⟨rfl,ha,hp⟩
 ·have aNa:es[j]?=some e:=by simpa using he
  have aNx:(Instr.keyThatStays e.key (key k)).run P w=.ok (key k) w:=by
   have:Instr.sameBits 10000 e.key (key k)=true:=by rw[hek];exact hk.bits 10000 k
   simp only[Instr.keyThatStays,this,if_true];rfl
  refine⟨{ w with heap:=w.heap.setIfInBounds b (.map (es.modify j λe=>{ e with key:=key k,val:=v }) clock) },?_,⟨es.modify j λe=>{ e with key:=key k,val:=v },clock,?_,?_⟩,Na _,by simp⟩
  ·simp[Instr.mapUpdate,run_underlying hm,ym,hck,hfk,aNa,aNx,sq]
  ·simp[aw]
  rw[<-hp v,Nat.sub_zero,Array.toList_modify]
 refine⟨{ w with heap:=w.heap.setIfInBounds b (.map (es.push { key:=key k,val:=v,born:=clock }) (clock+1)) },?_,⟨es.push { key:=key k,val:=v,born:=clock },clock+1,?_,?_⟩,Na _,by simp⟩
 ·simp[Instr.mapUpdate,run_underlying hm,ym,hck,hfk,sq]
 ·simp[aw]
 rw[hp v];simp[h2]
theorem GS {mt kt et:TypeId}{w:World}{b:Nat}{gg:List (α×Value)}{z:Value}{t:Fr}{K:VK}{Q:EP}{p}{c:Bool}{k:α}(hm:P.underlying mt=some (.map kt et))(hk:tY P kt key)(hz:(P.info? et).bind (·.zero)=some z)(h:ml key w b gg)
  (kk:K (if c then .tuple #[(eA k gg).getD z,.bool (eA k gg).isSome] else (eA k gg).getD z) w):ak P (Instr.lookup mt (.map (some b)) (key k) c) t w K Q p:=eu (JM hm hk hz h k c) kk
theorem aB4 {mt kt et:TypeId}{w:World}{b:Nat}{gg:List (α×Value)}{t:Fr}{K:VK}{Q:EP}{k:α}{v:Value}(hm:P.underlying mt=some (.map kt et))(hk:tY P kt key)(h:ml key w b gg)
  (kk:∀w',ml key w' b (DK k v gg)->Kept (·=b) w w'->w'.heap.size=w.heap.size->K undef w'):a7 P (Instr.mapUpdate mt (.map (some b)) (key k) v) t w K Q .mk:=by
 obtain⟨w',hr,h1,h2,h3⟩:=KU hm hk h k v;exact Bs hr (kk w' h1 h2 h3)
theorem pK {mt kt et:TypeId}{w:World}{b:Nat}{gg:List (α×Value)}{z kv u:Value}{t:Fr}{K:VK}{Q:EP}{p}{k:α}(hm:P.underlying mt=some (.map kt et))(hk:tY P kt key)(hz:(P.info? et).bind (·.zero)=some z)(h:ml key w b gg)(AY:kv=key k)(ha:eA k gg=some u)
  (kk:K (.tuple #[u,.bool true]) w):ak P (Instr.lookup mt (.map (some b)) kv true) t w K Q p:=by
 subst AY;refine GS hm hk hz h ?_;rw[ha];exact kk
theorem pJ {mt kt et:TypeId}{w:World}{b:Nat}{gg:List (α×Value)}{z kv:Value}{t:Fr}{K:VK}{Q:EP}{p}{k:α}(hm:P.underlying mt=some (.map kt et))(hk:tY P kt key)(hz:(P.info? et).bind (·.zero)=some z)(h:ml key w b gg)(AY:kv=key k)(ha:eA k gg=none)
  (kk:K (.tuple #[z,.bool false]) w):ak P (Instr.lookup mt (.map (some b)) kv true) t w K Q p:=by
 subst AY;refine GS hm hk hz h ?_;rw[ha];exact kk
theorem EF {k:α}{v:Value}:∀{gg:List (α×Value)},eA k gg=none->DK k v gg=gg++[(k,v)]
 | [],_=>rfl
 | p::r,h=>by
  rw[eA]at h;split at h
  ·cases h
  rename_i dD;rw[DK,if_neg dD,EF h];rfl
theorem jJ {mt kt et:TypeId}{w:World}{b:Nat}{gg:List (α×Value)}{t:Fr}{K:VK}{Q:EP}{k:α}{v kv:Value}(hm:P.underlying mt=some (.map kt et))(hk:tY P kt key)(h:ml key w b gg)(AY:kv=key k)(ha:eA k gg=none)
  (kk:∀w',ml key w' b (gg++[(k,v)])->Kept (·=b) w w'->w'.heap.size=w.heap.size->K undef w'):a7 P (Instr.mapUpdate mt (.map (some b)) kv v) t w K Q .mk:=by
 subst AY;refine aB4 hm hk h ?_;rw[EF ha];exact kk
theorem Aw {mt:TypeId}{w:World}{t:Fr}{K:VK}{Q:EP}{p}{key:α->Value}(kk:∀w',ml key w' w.heap.size []->Below w.heap.size w w'->w'.heap.size=w.heap.size+1->K (.map (some w.heap.size)) w'):ak P (Instr.makeMap mt none) t w K Q p :=
 eu (w':=w.alloc (.map #[] 0)) (v:=.map (some w.heap.size)) rfl (kk _ ⟨#[],0,heap_alloc_new w _,rfl⟩ ((Below.refl _ _).alloc (Nat.le_refl _) _) (by simp))
end
end Go.Vc
end
section
namespace Go.Vc
open Go.RowKit
def n0 (C D:World->Prop)(m:Nat)(listed:Array Bool):World->Prop:=λw=>(listed.getD m false=true->D w)/\(listed.getD m false=false->C w)
section
variable {P:Program} {ops:Array Oper} {C D:World->Prop}
theorem mz {m:Nat}{listed:Array Bool}(h:listed.getD m false=true):n0 C D m listed=D:=funext λw=>propext ⟨λhh=>hh.1 h,λhh=>⟨λ_=>hh,λh'=>by rw[h]at h';cases h'⟩⟩
theorem my {m:Nat}{listed:Array Bool}(h:listed.getD m false=false):n0 C D m listed=C:=funext λw=>propext ⟨λhh=>hh.2 h,λhh=>⟨λh'=>(by rw[h]at h';cases h'),λ_=>hh⟩⟩
theorem tq (sd:∀w,C w->D w){m:Nat}{listed:Array Bool}{w:World}(h:n0 C D m listed w):D w:=by
 cases hm:listed.getD m false with
 | true=>exact h.1 hm
 | false=>exact sd w (h.2 hm)
theorem vV (sd:∀w,C w->D w){m i:Nat}{listed:Array Bool}{w:World}(h:n0 C D m listed w):n0 C D m (listed.setIfInBounds i true) w:=by
 cases hm:(listed.setIfInBounds i true).getD m false with
 | true=>rw[mz hm];exact tq sd h
 | false =>
  rw[my hm];refine h.2 ?_;cases hl:listed.getD m false with
  | false=>rfl
  | true=>rw[getD_set_true hl]at hm;cases hm
theorem RO {i:Nat}{o:Oper}{K:Act->World->Prop}{a:Act}{w:World}(hi:ops[i]?=some o)(hq:chain P o=false)(sd:∀w,C w->D w)(h:bF P ops D i K a w):bF P ops C i K a w:=by
 cases hw:Region.wanted o (yielded ops a.tmps) with
 | false=>rw[dA hi hw]at h ⊢;exact h
 | true =>
  rw[bN hi hw hq]at h ⊢
  obtain⟨v,hv,hk⟩:=h;exact⟨v,λw' tW=>hv w' (sd w' tW),hk⟩
theorem JU {i:Nat}{o:Oper}{K K':Act->World->Prop}{a:Act}{w:World}(hi:ops[i]?=some o)(hq:chain P o=false)(hk:∀a,K a w->K' a w)(h:bF P ops D i K a w):bF P ops D i K' a w:=by
 cases hw:Region.wanted o (yielded ops a.tmps) with
 | false=>rw[dA hi hw]at h ⊢;exact hk _ h
 | true =>
  rw[bN hi hw hq]at h ⊢
  obtain⟨v,hv,hh⟩:=h;exact⟨v,hv,hk _ hh⟩
theorem JX {i j:Nat}{oi oj:Oper}{K:Act->World->Prop}{a:Act}{w:World}(sd:∀w,C w->D w)(hi:ops[i]?=some oi)(hj:ops[j]?=some oj)(CN:oi.apart ops oj=true)(Cp:chain P oi=false)
  (hsi:∀cs b,oi.op≠.select cs b) (hsj:∀cs b,oj.op≠.select cs b) (h:bF P ops D i (bF P ops C j K) a w):bF P ops C j (bF P ops D i K) a w:=by
 obtain⟨h1,h2,h3⟩:=Oper.apart_spec CN;have ej:∀(b:Act) (v:Value),execOp (b.put oi.dst v).eval oj=execOp b.eval oj:=λb v=>execOp_put oj hsj b oi.dst v h1;have ei:∀(b:Act) (v:Value),execOp (b.put oj.dst v).eval oi=execOp b.eval oi:=λb v=>execOp_put oi hsi b oj.dst v h3;have wj:∀(b:Act) (v:Value),Region.wanted oj (yielded ops (b.put oi.dst v).tmps)=Region.wanted oj (yielded ops b.tmps):=λb v=>wanted_put oj b oi.dst v h1;have wi:∀(b:Act) (v:Value),Region.wanted oi (yielded ops (b.put oj.dst v).tmps)=Region.wanted oi (yielded ops b.tmps):=λb v=>wanted_put oi b oj.dst v h3;have cm:∀(b:Act) (v u:Value),(b.put oi.dst v).put oj.dst u=(b.put oj.dst u).put oi.dst v:=λb v u=>Act.put_comm b v u h2;cases gU:Region.wanted oi (yielded ops a.tmps) with
 | false =>
  rw[dA hi gU]at h;cases gQ:Region.wanted oj (yielded ops a.tmps) with
  | false =>
   rw[dA hj (by rw[wj];exact gQ)]at h;rw[dA hj gQ,dA hi (by rw[wi];exact gU),<-cm];exact h
  | true =>
   cases qN:chain P oj with
   | true =>
    rw[eD hj (by rw[wj];exact gQ) qN,ej]at h;rw[eD hj gQ qN];refine jt (λv w' _ hh=>?_) h;rw[dA hi (by rw[wi];exact gU),<-cm];exact hh
   | false =>
    rw[bN hj (by rw[wj];exact gQ) qN,ej]at h;rw[bN hj gQ qN];obtain⟨v,hv,hk⟩:=h;refine⟨v,hv,?_⟩;rw[dA hi (by rw[wi];exact gU),<-cm];exact hk
 | true =>
  rw[bN hi gU Cp]at h;obtain⟨v,hv,hk⟩:=h;cases gQ:Region.wanted oj (yielded ops a.tmps) with
  | false =>
   rw[dA hj (by rw[wj];exact gQ)]at hk;rw[dA hj gQ,bN hi (by rw[wi];exact gU) Cp,ei];exact⟨v,hv,by rw[<-cm];exact hk⟩
  | true =>
   cases qN:chain P oj with
   | true =>
    rw[eD hj (by rw[wj];exact gQ) qN,ej]at hk;rw[eD hj gQ qN];refine jt (λu w' _ hh=>?_) hk;rw[bN hi (by rw[wi];exact gU) Cp,ei];exact⟨v,hv,by rw[<-cm];exact hh⟩
   | false =>
    rw[bN hj (by rw[wj];exact gQ) qN,ej]at hk;rw[bN hj gQ qN];obtain⟨u,hu,hk⟩:=hk;refine⟨u,hu,?_⟩;rw[bN hi (by rw[wi];exact gU) Cp,ei];exact⟨v,hv,by rw[<-cm];exact hk⟩
def pU (P:Program)(ops:Array Oper)(C D:World->Prop)(m:Nat)(R:Act->World->Prop):Nat->Array Bool->Act->World->Prop
 | 0,listed,a,w=>Region.ready .any ops listed=[]/\R a w
 | n+1,listed,a,w=>(Region.ready .any ops listed=[]->R a w)/\∀i∈Region.ready .any ops listed,bF P ops (n0 C D m (listed.setIfInBounds i true)) i (pU P ops C D m R n (listed.setIfInBounds i true)) a w
theorem il (sd:∀w,C w->D w){m:Nat}{R:Act->World->Prop}{Q:Exit->Act->World->Prop}(hq:∀a w,R a w->Q .normal a w):∀(n:Nat) (listed:Array Bool) (a:Act) (w:World),n0 C D m listed w ->
  pU P ops C D m R n listed a w->wpAny P .any ops Q n listed a w
 | 0,listed,a,w,_,h=>⟨h.1,hq _ _ h.2⟩
 | fuel+1,listed,a,w,hC,h=>⟨λh0=>hq _ _ (h.1 h0),λi hi=>by
   have h1:=h.2 i hi;have sZ:=vV sd (i:=i) hC;unfold bF at h1;unfold wpOp;split
   ·rename_i ho;simp only[ho]at h1;exact il sd hq fuel _ _ _ sZ h1
   rename_i o ho;simp only[ho]at h1;split
   ·rename_i hw;simp only[hw,if_true]at h1;refine .inl ?_;split at h1
    ·exact Oper.wp_mono (λa' w' hh=>il sd hq fuel _ _ _ hh.1 hh.2) (lh h1)
    obtain⟨v,hv,hk⟩:=h1;unfold Oper.wp;rw[hv w sZ];exact il sd hq fuel _ _ _ sZ hk
   rename_i hw;simp only[hw]at h1;exact il sd hq fuel _ _ _ sZ h1⟩
theorem pV (sd:∀w,C w->D w){m:Nat}{R:Act->World->Prop}{i:Nat}{oi:Oper}(fl:Bool)(hi:ops[i]?=some oi)(pE:∀(j:Nat) (o:Oper) cs b,ops[j]?=some o->o.op≠.select cs b) :
  ∀(fuel:Nat) (listed:Array Bool) (a:Act) (w:World),n0 C D m listed w->p5 ops listed ->
   ((fl=true/\chain P oi=false/\i≠m)\/(fl=false/\(listed.getD m false=true\/(i≠m/\((Region.before ops).getD m 0).testBit i=true)))) ->
   (∀j oj,ops[j]?=some oj->j≠i->listed.getD j true=false->((Region.before ops).getD j 0).testBit i=false->oi.apart ops oj=true/\(chain P oi && chain P oj)=false) ->
   i∈Region.ready .any ops listed->bF P ops (if fl then D else n0 C D m (listed.setIfInBounds i true)) i (pU P ops C D m R fuel (listed.setIfInBounds i true)) a w->pU P ops C D m R (fuel+1) listed a w:=by
 have Ab:∀listed:Array Bool,∀i∈Region.ready .any ops listed,i<listed.size/\listed.getD i false=false:=λlisted i hr=>by
  have h0:=(mem_ready.1 hr).1;rcases Nat.lt_or_ge i listed.size with h'|h'
  ·simp[h']at h0 ⊢;exact h0
  simp[h']at h0
 have hE:∀(listed:Array Bool) (w:World),n0 C D m listed w->(if fl then D else n0 C D m (listed.setIfInBounds i true)) w:=λlisted w h=>by
  cases fl with
  | true=>exact tq sd h
  | false=>exact vV sd h
 have ym:∀(listed:Array Bool) (K:Act->World->Prop) (a:Act) (w:World),((fl=true/\chain P oi=false/\i≠m)\/(fl=false/\(listed.getD m false=true\/(i≠m/\((Region.before ops).getD m 0).testBit i=true)))) ->
   bF P ops (if fl then D else n0 C D m (listed.setIfInBounds i true)) i K a w->bF P ops (n0 C D m (listed.setIfInBounds i true)) i K a w:=λlisted K a w hc h=>by
  rcases hc with ⟨rfl,hq,_⟩|⟨rfl,_⟩
  ·exact RO hi hq (λw hw=>tq sd hw) h
  exact h
 intro fuel;induction fuel with
 | zero =>
  intro listed a w hC hS xL _ hr H;refine⟨λh=>(by rw[h]at hr;cases hr),λj hj=>?_⟩;by_cases nI:j=i
  ·subst nI;exact ym _ _ _ _ xL H
  have:=ready_mono hj nI;obtain⟨_,_,_,hh⟩:=pL (hE _ _ hC) H;rw[hh.1]at this;cases this
 | succ fuel ih =>
  intro listed a w hC hS xL lN hr H;refine⟨λh=>(by rw[h]at hr;cases hr),λj hj=>?_⟩;by_cases nI:j=i
  ·subst nI;exact ym _ _ _ _ xL H
  obtain⟨uM,oj,qR,cN⟩:=mem_ready.1 hj;obtain⟨aNm,Fs⟩:=Ab listed i hr;have aEN:=(Ab listed j hj).1;have A4:((Region.before ops).getD j 0).testBit i=false:=by
   cases hb:((Region.before ops).getD j 0).testBit i with
   | false=>rfl
   | true=>have:=hS.before j i oj qR cN hb;rw[Fs]at this;cases this
  obtain⟨CN,Sw⟩:=lN j oj qR nI uM A4;have h1:bF P ops (if fl then D else n0 C D m (listed.setIfInBounds i true)) i (bF P ops (n0 C D m ((listed.setIfInBounds i true).setIfInBounds j true)) j (pU P ops C D m R fuel ((listed.setIfInBounds i true).setIfInBounds j true))) a w :=
   bu (hE _ _ hC) (λa' w' _ hh=>hh.2 j (ready_mono hj nI)) H
  have key:bF P ops (n0 C D m (listed.setIfInBounds j true)) j (bF P ops (if fl then D else n0 C D m ((listed.setIfInBounds j true).setIfInBounds i true)) i (pU P ops C D m R fuel ((listed.setIfInBounds i true).setIfInBounds j true))) a w /\
    ((fl=true/\chain P oi=false/\i≠m)\/(fl=false/\((listed.setIfInBounds j true).getD m false=true\/(i≠m/\((Region.before ops).getD m 0).testBit i=true)))):=by
   rcases xL with ⟨rfl,hq,him⟩|⟨rfl,xL⟩
   ·refine⟨?_,.inl ⟨rfl,hq,him⟩⟩;have e:n0 C D m ((listed.setIfInBounds i true).setIfInBounds j true)=n0 C D m (listed.setIfInBounds j true):=by
     rw[Array.setIfInBounds_comm _ _ (Ne.symm nI)];unfold n0;rw[getD_set_ne false him]
    rw[e]at h1;exact JX (λw hw=>tq sd hw) hi qR CN hq (λcs b=>pE i oi cs b hi) (λcs b=>pE j oj cs b qR) h1
   simp only[Bool.false_eq_true,if_false]at h1;cases hm:listed.getD m false with
   | true =>
    have e1:∀k,(listed.setIfInBounds k true).getD m false=true:=λk=>getD_set_true hm;have e2:∀k k',((listed.setIfInBounds k true).setIfInBounds k' true).getD m false=true:=λk k'=>getD_set_true (e1 k);rw[mz (e1 i),mz (e2 i j)]at h1;refine⟨?_,.inr ⟨rfl,.inl (e1 j)⟩⟩;simp only[Bool.false_eq_true,if_false];rw[mz (e1 j),mz (e2 j i)];exact mW hi qR CN Sw (λcs b=>pE i oi cs b hi) (λcs b=>pE j oj cs b qR) h1
   | false =>
    have nh:=xL.resolve_left (by rw[hm];simp);have Fv:j≠m:=λe=>by subst e;rw[A4]at nh;simp at nh
    have ei:(listed.setIfInBounds i true).getD m false=false:=by rw[getD_set_ne false nh.1];exact hm
    have ej:(listed.setIfInBounds j true).getD m false=false:=by rw[getD_set_ne false Fv];exact hm
    have eji:((listed.setIfInBounds j true).setIfInBounds i true).getD m false=false:=by rw[getD_set_ne false nh.1];exact ej
    have eij:((listed.setIfInBounds i true).setIfInBounds j true).getD m false=false:=by rw[getD_set_ne false Fv];exact ei
    rw[my ei,my eij]at h1;refine⟨?_,.inr ⟨rfl,.inr nh⟩⟩;simp only[Bool.false_eq_true,if_false];rw[my ej,my eji];exact mW hi qR CN Sw (λcs b=>pE i oi cs b hi) (λcs b=>pE j oj cs b qR) h1
  obtain⟨h2,yM⟩:=key;refine bu (vV sd hC) (λa' w' sZ h3=>ih (listed.setIfInBounds j true) a' w' sZ (hS.set hj) yM ?_ (ready_mono hr (Ne.symm nI)) ?_) h2
  ·intro k ok hk Yj WU eZ;refine lN k ok hk Yj ?_ eZ;by_cases Lf:j=k
   ·subst Lf;exact uM
   rw[getD_set_ne true Lf]at WU;exact WU
  rw[show (listed.setIfInBounds i true).setIfInBounds j true=(listed.setIfInBounds j true).setIfInBounds i true from Array.setIfInBounds_comm _ _ (Ne.symm nI)]at h3
  exact h3
def Jb (P:Program)(ops:Array Oper)(bf:Array Nat):List Nat->Array Bool->Bool
 | [],listed=>(Region.ready .any ops listed).isEmpty
 | k::r,listed=>(Region.ready .any ops listed).contains k && l9 P ops bf listed k && Jb P ops bf r (listed.setIfInBounds k true)
def Xf (P:Program):Option Oper->Bool
 | some o=>!chain P o
 | none=>false
def X8 (P:Program)(ops:Array Oper)(bf:Array Nat)(m:Nat)(post:List Nat):List (Nat×Bool)->Array Bool->Bool
 | [],listed=>(Region.ready .any ops listed).contains m && (Region.ready .any ops listed).all (· == m) && Jb P ops bf post (listed.setIfInBounds m true)
 | (k,fl)::r,listed=>(Region.ready .any ops listed).contains k && (k != m) && l9 P ops bf listed k && (if fl then Xf P ops[k]? else (bf.getD m 0).testBit k) && X8 P ops bf m post r (listed.setIfInBounds k true)
def XU (P:Program)(ops:Array Oper)(pre:List (Nat×Bool))(m:Nat)(post:List Nat):Bool:=Region.noSelect ops && (pre.length+(post.length+1) == ops.size) && X8 P ops (Region.before ops) m post pre (Array.replicate ops.size false)
def zJ (P:Program)(ops:Array Oper)(D:World->Prop)(R:Act->World->Prop):List Nat->Act->World->Prop
 | [],a,w=>R a w
 | k::r,a,w=>bF P ops D k (zJ P ops D R r) a w
def CE (P:Program)(ops:Array Oper)(C D:World->Prop)(R:Act->World->Prop)(m:Nat)(post:List Nat):List (Nat×Bool)->Act->World->Prop
 | [],a,w=>bF P ops D m (zJ P ops D R post) a w
 | (k,fl)::r,a,w=>bF P ops (if fl then D else C) k (CE P ops C D R m post r) a w
theorem xw (sd:∀w,C w->D w){m:Nat}{R:Act->World->Prop}(hs:Region.noSelect ops=true):∀(post:List Nat) (listed:Array Bool) (a:Act) (w:World),D w->listed.getD m false=true->p5 ops listed ->
  Jb P ops (Region.before ops) post listed=true->zJ P ops D R post a w->pU P ops C D m R post.length listed a w
 | [],listed,a,w,_,_,_,hB,h=>⟨by simpa[Jb] using hB,h⟩
 | k::r,listed,a,w,hD,hm,hS,hB,h=>by
  simp only[Jb,Bool.and_eq_true]at hB;obtain⟨⟨hr,hf⟩,qH⟩:=hB;have jN:k∈Region.ready .any ops listed:=by simpa using hr
  obtain⟨_,ok,bJ,_⟩:=mem_ready.1 jN;refine pV sd (i:=k) (oi:=ok) false bJ (Region.noSelect_spec hs) r.length listed a w (by rw[mz hm];exact hD) hS (.inr ⟨rfl,.inl hm⟩) (fN bJ hf) jN ?_;simp only[Bool.false_eq_true,if_false];rw[mz (getD_set_true hm)];exact bu hD (λa' w' hD' hh=>xw sd hs r _ a' w' hD' (getD_set_true hm) (hS.set jN) qH hh) h
theorem tR (sd:∀w,C w->D w){m:Nat}{post:List Nat}{R:Act->World->Prop}(hs:Region.noSelect ops=true):∀(pre:List (Nat×Bool)) (listed:Array Bool) (a:Act) (w:World),C w->listed.getD m false=false->p5 ops listed ->
  X8 P ops (Region.before ops) m post pre listed=true->CE P ops C D R m post pre a w->pU P ops C D m R (pre.length+(post.length+1)) listed a w
 | [],listed,a,w,hC,hm,hS,hB,h=>by
  simp only[X8,Bool.and_eq_true,List.all_eq_true,beq_iff_eq]at hB;obtain⟨⟨hr,cN⟩,qH⟩:=hB;have jN:m∈Region.ready .any ops listed:=by simpa using hr
  have GG:m<listed.size:=by
   have h0:=(mem_ready.1 jN).1;rcases Nat.lt_or_ge m listed.size with h'|h'
   ·exact h'
   simp[h']at h0
  have em:(listed.setIfInBounds m true).getD m false=true:=by simp[GG]
  rw[List.length_nil,Nat.zero_add];refine⟨λh0=>(by rw[h0]at jN;cases jN),λi hi=>?_⟩;rw[cN i hi];rw[mz em];exact bu (sd w hC) (λa' w' hD' hh=>xw sd hs post _ a' w' hD' em (hS.set jN) qH hh) h
 | (k,fl)::r,listed,a,w,hC,hm,hS,hB,h=>by
  simp only[X8,Bool.and_eq_true,bne_iff_ne,ne_eq]at hB;obtain⟨⟨⟨⟨hr,xO⟩,hf⟩,ba⟩,qH⟩:=hB;have jN:k∈Region.ready .any ops listed:=by simpa using hr
  obtain⟨_,ok,bJ,_⟩:=mem_ready.1 jN;have em:(listed.setIfInBounds k true).getD m false=false:=by rw[getD_set_ne false xO];exact hm
  rw[List.length_cons,Nat.add_right_comm];have j1:n0 C D m listed w:=by rw[my hm];exact hC
  cases fl with
  | true =>
   simp only[if_true]at ba;rw[bJ]at ba;have hq:chain P ok=false:=by simpa[Xf] using ba
   refine pV sd (i:=k) (oi:=ok) true bJ (Region.noSelect_spec hs) _ listed a w j1 hS (.inl ⟨rfl,hq,xO⟩) (fN bJ hf) jN ?_;simp only[if_true];have h:bF P ops D k (CE P ops C D R m post r) a w:=h;exact JU bJ hq (λa' hh=>tR sd hs r _ a' w hC em (hS.set jN) qH hh) h
  | false =>
   simp only[Bool.false_eq_true,if_false]at ba;refine pV sd (i:=k) (oi:=ok) false bJ (Region.noSelect_spec hs) _ listed a w j1 hS (.inr ⟨rfl,.inr ⟨xO,ba⟩⟩) (fN bJ hf) jN ?_;simp only[Bool.false_eq_true,if_false];rw[my em];have h:bF P ops C k (CE P ops C D R m post r) a w:=h;exact bu hC (λa' w' sZ hh=>tR sd hs r _ a' w' sZ em (hS.set jN) qH hh) h
end
section
variable {P:Program}
def nU (P:Program)(ops:List Oper)(D:World->Prop)(R:Fr->World->Prop):(l:List Nat)->Fr->World->Ph (ops,D,R,l)->Prop
 | [],t,w,_=>R t w
 | k::r,t,w,_=>gx P ops D ops[k]? (λt w=>nU P ops D R r t w .mk) t w .mk
def nt (P:Program)(ops:List Oper)(C D:World->Prop)(R:Fr->World->Prop)(m:Nat)(post:List Nat):(l:List (Nat×Bool))->Fr->World->Ph (ops,C,D,R,m,post,l)->Prop
 | [],t,w,_=>gx P ops D ops[m]? (λt w=>nU P ops D R post t w .mk) t w .mk
 | (k,true)::r,t,w,_=>gx P ops D ops[k]? (λt w=>nt P ops C D R m post r t w .mk) t w .mk
 | (k,false)::r,t,w,_=>gx P ops C ops[k]? (λt w=>nt P ops C D R m post r t w .mk) t w .mk
theorem CD {ops:List Oper}{D:World->Prop}{R:Fr->World->Prop}{N:Act->World->Prop}(hn:∀t w,R t w->N ⟨t.toArray,[]⟩ w):∀(l:List Nat) (t:Fr) (w:World),nU P ops D R l t w .mk->zJ P ops.toArray D N l ⟨t.toArray,[]⟩ w
 | [],t,w,h=>hn t w h
 | k::r,t,w,h=>dN (λt w=>CD hn r t w) h
theorem wZ {ops:List Oper}{C D:World->Prop}{R:Fr->World->Prop}{N:Act->World->Prop}{m:Nat}{post:List Nat}(hn:∀t w,R t w->N ⟨t.toArray,[]⟩ w):∀(l:List (Nat×Bool)) (t:Fr) (w:World),nt P ops C D R m post l t w .mk->CE P ops.toArray C D N m post l ⟨t.toArray,[]⟩ w
 | [],t,w,h=>dN (λt w=>CD hn post t w) h
 | (k,true)::r,t,w,h=>dN (λt w=>wZ hn r t w) h
 | (k,false)::r,t,w,h=>dN (λt w=>wZ hn r t w) h
theorem Y8 {id:Nat}{l:List Oper}{t:Fr}{w:World}{Q:EP}{p}(pre:List (Nat×Bool))(m:Nat)(post:List Nat)(C D:World->Prop)(hm:P.follows .mixedOrders=true)(hB:XU P l.toArray pre m post=true)(sd:∀w,C w->D w)(hC:C w.drew)
  (h:nt P l C D (Q .normal) m post pre t w.drew .mk):dd P (.region id l.toArray true) Q t w p:=by
 unfold dd;simp only[XU,Bool.and_eq_true,beq_iff_eq]at hB;refine wp_region_any hm ?_;have hG:pU P l.toArray C D m (λa w=>lift Q .normal a w) (pre.length+(post.length+1)) (Array.replicate l.toArray.size false) ⟨t.toArray,[]⟩ w.drew:=by
  refine tR sd hB.1.1 pre _ _ _ hC (by rw[Array.getD_eq_getD_getElem?,Array.getElem?_replicate];split<;>rfl) (λj o _ hl=>by simp[Array.getElem?_replicate]at hl;split at hl<;>simp at hl) hB.2 ?_;exact wZ (P:=P) (R:=Q .normal) (N:=λa w=>lift Q .normal a w) (λt w hk=>⟨rfl,by simpa using hk⟩) pre t w.drew h
 rw[hB.1.2]at hG;exact il sd (R:=λa w=>lift Q .normal a w) (Q:=λe a w=>lift Q e a w) (λ_ _ h=>h) _ _ _ _ (by rw[my (by rw[Array.getD_eq_getD_getElem?,Array.getElem?_replicate];split<;>rfl)];exact hC) hG
variable {t:Fr} {w:World} {C D:World->Prop} {R:Fr->World->Prop}
theorem K1 (ops)(p):nU P ops D R [] t w p=R t w:=(rfl)
theorem Gu (ops k r)(p):nU P ops D R (k::r) t w p=gx P ops D ops[k]? (λt w=>nU P ops D R r t w .mk) t w .mk:=(rfl)
theorem NA (ops m post)(p):nt P ops C D R m post [] t w p=gx P ops D ops[m]? (λt w=>nU P ops D R post t w .mk) t w .mk:=(rfl)
theorem K3 (ops m post k r)(p):nt P ops C D R m post ((k,true)::r) t w p=gx P ops D ops[k]? (λt w=>nt P ops C D R m post r t w .mk) t w .mk:=(rfl)
theorem Gv (ops m post k r)(p):nt P ops C D R m post ((k,false)::r) t w p=gx P ops C ops[k]? (λt w=>nt P ops C D R m post r t w .mk) t w .mk:=(rfl)
end
attribute [push_cast] K1 Gu NA K3 Gv
attribute [irreducible] nU nt
end Go.Vc
end
section
namespace Go.Vc
open Go.RowKit
theorem Own.aLp {α:Type}{base k:Nat}{e:TypeId}{enc:α->List Value}{w:World}{b o n c:Nat}{l:List α}(h:Vc.Own base e k enc w (.slice (some ⟨b,o,none⟩) n c) l):o=0:=by
 rcases h.1.2 with ⟨he,_⟩|⟨g,cap,cr,he,_⟩
 ·cases he
 cases he;rfl
section
variable {P:Program} {t:Fr} {w:World} {C:World->Prop} {K:VK}
theorem XA (d)(args:List Operand)(mE ty pos af g)(p):dp P ⟨d,.call { callee:=.builtin .max,args:=args.toArray,argTypes:=mE },ty,pos,af,g⟩ t w C K p =
  Yr true (args.map (ev t)) (K · w) False .mk:=rfl
theorem XB (d)(args:List Operand)(mE ty pos af g)(p):dp P ⟨d,.call { callee:=.builtin .min,args:=args.toArray,argTypes:=mE },ty,pos,af,g⟩ t w C K p =
  Yr false (args.map (ev t)) (K · w) False .mk:=rfl
end
attribute [push_cast] XA XB
theorem cR {P:Program}{f:FuncId}{fn:Func}{args:List Value}{w:World}{R:VK}(hf:P.funcs[f]?=some fn)(hb:fn.body.isNone=false)(hn:(fn.name == "runtime.NumGoroutine")=false)
  (h:Calls P f args.toArray w λe w'=>∃v,e=.returned v/\R v w'):bE P f args w R:=⟨bo hf hb hn,h⟩
theorem XW {α:Type}{w:World}{e:TypeId}{k g G:Nat}{enc:α->List Value}{cur:Array Value}(hk:∀x,(enc x).length=k)(hb:w.heap[g]?=some (.cells cur e (0,0)))(hG:G<=maxLen)(hs:cur.size=G*k):Vc.Own g e k enc w (.slice (some ⟨g,0,none⟩) 0 G) ([]:List α) :=
 ⟨⟨by simp,.inr ⟨g,G,cur,rfl,Nat.le_refl _,hb,Nat.zero_le _,hG,hs,by simp⟩⟩,hk⟩
theorem Eu {P:Program}{f:FuncId}{args:List Value}{w:World}{R:VK}(h:bE P f args w R):Calls P f args.toArray w λe w'=>∃v,e=.returned v/\R v w':=h.2
end Go.Vc
namespace Go.Proofs.YtledlfbbebodgaaGreatDoor
open Go.Vc Go.Proofs Go.RowKit Cae
attribute [local irreducible] dd ae ak a7 runK bE Sl Vc.Own vc aU cJ a8
end Go.Proofs.YtledlfbbebodgaaGreatDoor
namespace Go.RowKit
theorem Below.tr {a b c:World}(h:Below a.heap.size a b)(k:Below b.heap.size b c):Below a.heap.size a c:=h.trans (k.mono h.size)
end Go.RowKit
end
section
namespace Cae
def PF (n:Nat):UInt8:=if n<10 then UInt8.ofNat (48+n) else UInt8.ofNat (87+n)
def qO:Nat->Nat->List UInt8->List UInt8
 | 0,n,acc=>PF n::acc
 | f+1,n,acc=>if n<16 then PF n::acc else qO f (n / 16) (PF (n % 16)::acc)
def gk (n:Nat):List UInt8:=qO 8 n []
theorem Ib:∀(f n:Nat) (acc:List UInt8),(qO f n acc).length<=f+1+acc.length
 | 0,n,acc=>by rw[qO];simp;omega
 | f+1,n,acc=>by
  rw[qO];split
  ·simp;omega
  have:=Ib f (n / 16) (PF (n % 16)::acc);rw[List.length_cons]at this;omega
theorem uK (n:Nat):(gk n).length<=9:=Ib 8 n []
end Cae
namespace Go.Vc
open Go.RowKit
theorem aBQ {α:Type}{f:α->Value}{w:World}{b c j n:Nat}{e:TypeId}{l:List α}{cs:List Value}(hB:aM w b e cs)(hd:cs.drop j=l.map f)(hn:n=l.length)(hc:l.length<=c):Sl (λ_=>False) 1 (En (λx=>[f x])) w (.slice (some ⟨b,j,none⟩) n c) l:=by
 subst hn;refine⟨_,_,rfl,hc,λi x hx=>⟨b,j,[f x],rfl,id,rfl,λk u hu=>?_,rfl⟩⟩;cases k with
 | zero =>
  simp at hu;subst hu;rw[Nat.mul_one,Nat.add_zero];refine hB.cell ?_;have h1:(cs.drop j)[i]?=some (f x):=by rw[hd,List.getElem?_map,hx];rfl
  rwa [List.getElem?_drop]at h1
 | succ k=>simp at hu
end Go.Vc
namespace Go.Proofs.YtledlfbbebodgaaGreatDoor
open Go.Vc Go.Proofs Go.RowKit Cae
attribute [local irreducible] dd ae ak a7 runK bE Sl Vc.Own vc aU cJ a8
def Db (w:World):Prop:=w.cell? ⟨8,15,none⟩=some (.int .u8 4)
theorem Db.below {w w':World}{B:Nat}(h:Db w)(hb:Below B w w')(hB:8<B):Db w':=(hb.cell hB).trans h
theorem Db.lt {w:World}(h:Db w):8<w.heap.size:=World.block_lt_of_cell? w _ h
theorem Em {x y:Nat}(hx:x<18446744073709551616)(hy:y<18446744073709551616):eF .and .u64 x y=((x &&& y:Nat):Int):=by
 simp only[eF,rS,BitVec.toNat_and,BitVec.toNat_ofNat];rw[Nat.mod_eq_of_lt (show x<2 ^ IntKind.u64.bits by show x<2 ^ 64;omega),Nat.mod_eq_of_lt (show y<2 ^ IntKind.u64.bits by show y<2 ^ 64;omega),fS,Nat.mod_eq_of_lt (Ku (n:=64) hx)]
theorem Ue:∀d:Nat,d<16->([48,49,50,51,52,53,54,55,56,57,97,98,99,100,101,102,103,104,105,106,107,108,109,110,111,112,113,114,115,116,117,118,119,120,121,122]:List UInt8).getD d 0=PF d:=by decide
theorem aFU (w:World):bE Tryz.prog 205 [.int .i64 16] w λr w'=>r=.bool true/\w'=w:=by
 refine aE Tryz.func205 rfl (by kernel_rfl) [2] rfl ?_;simp -dsimp (maxSteps:=4000000) only[push_cast,oy,Tryz.ntmps205,List.length_cons,List.length_nil,Nat.reduceAdd,Nat.reduceSub,Nat.reduceBEq,List.replicate_succ,List.replicate_zero];have e1:eF .and .i64 16 (16-1)=0:=by decide +kernel
 rw[e1];exact⟨by omega,rfl⟩
theorem aGz (w:World)(h:Db w):bE Tryz.prog 221 [.int .u64 16] w λr w'=>r=.int .i64 4/\w'=w:=by
 refine aE Tryz.func221 rfl (by kernel_rfl) [2] rfl ?_;simp -dsimp (maxSteps:=4000000) only[push_cast,oy,Tryz.ntmps221,List.length_cons,List.length_nil,Nat.reduceAdd,Nat.reduceSub,Nat.reduceBEq,List.replicate_succ,List.replicate_zero];simp -dsimp only[push_cast,Nat.reduceAdd,Nat.reduceLeDiff,Nat.reduceBEq,Int.reduceNe,Int.reduceEq,Int.reduceLT,Int.reduceLE];have e1:(IntKind.u64.wrap (eF .and .u64 16 (IntKind.u64.wrap (0-16))*285870213051353865)).fdiv (2 ^ min (Int.toNat 58) IntKind.u64.bits)=15:=by decide +kernel
 rw[e1];have h':w.cell? ⟨8,Int.toNat 15,none⟩=some (.int .u8 4):=h;simp -dsimp only[push_cast,Nat.reduceAdd,Nat.reduceLeDiff,Nat.reduceBEq,Int.reduceNe,Int.reduceEq,Int.reduceLT,Int.reduceLE,h'];exact⟨by omega,by rfl⟩
theorem aOU (w:World)(h:Db w):bE Tryz.prog 206 [.int .u64 16] w λr w'=>r=.int .i64 4/\w'=w:=by
 refine aE Tryz.func206 rfl (by kernel_rfl) [2] rfl ?_;simp -dsimp (maxSteps:=4000000) only[push_cast,oy,Tryz.ntmps206,List.length_cons,List.length_nil,Nat.reduceAdd,Nat.reduceSub,Nat.reduceBEq,List.replicate_succ,List.replicate_zero];refine aA (aGz w h) ?_;rintro _ w1 ⟨rfl,rfl⟩;simp -dsimp only[push_cast,Nat.reduceAdd,Nat.reduceLeDiff,Nat.reduceBEq,Int.reduceNe,Int.reduceEq,Int.reduceLT,Int.reduceLE]
theorem SM {P:Program}{xt:TypeId}{n s:Nat}{e:TypeId}{E:Option (TypeId×Nat)}{a:Addr}{j:Nat}{L:VP}{o:Oper}{t:Fr}{w:World}{K:VK}{Q:EP}{p}(hu:P.underlying xt=some (.array n e))(hn:P.arrayLen xt=n)(he:P.elem xt=e)
  (hs:(sizeOf e).run P w=.ok s w) (ho:execOp (ev t) o=(do pure (.value (<-Instr.sliceAt xt (.pointer (some a)) (some (.int .i64 (j:Int))) none none)))) (hj:j<n)
  (k:K (.slice (some (a.add (j*s))) (n-j) (n-j)) w):ff (P.underlying xt) E (.pointer (some a)) (some (.int .i64 (j:Int))) none none L (runK P o t w K Q .mk) p:=by
 rw[hu]
 show runK P o t w K Q .mk
 refine fx ho (eu ?_ k);rw[run_sliceAt_array_l w xt a (by rw[hu,hn,he]) .i64 (j:Int) (by omega) (by rw[hn];omega),he,hs];rw[hn];unfold slicedAt;rw[Int.toNat_natCast]
 show Result.ok (Value.slice (some (if n=j then a else a.add (j*s))) (n-j) (n-j)) w=_
 rw[if_neg (by omega)]
theorem Fc (n:Nat)(hn:n<4294967296)(w:World)(h:Db w) :
  bE Tryz.prog 189 [.slice none 0 0,.int .u64 (n:Int),.int .i64 16,.bool false,.bool false] w λr w'=>r=.tuple #[.slice none 0 0,str (gk n)]/\Below w.heap.size w w':=by
 refine aE Tryz.func189 rfl (by kernel_rfl) [10,11] rfl ?_;simp -dsimp (maxSteps:=4000000) only[push_cast,oy,Tryz.ntmps189,List.length_cons,List.length_nil,Nat.reduceAdd,Nat.reduceSub,Nat.reduceBEq,List.replicate_succ,List.replicate_zero];simp -dsimp only[push_cast,Nat.reduceAdd,Nat.reduceLeDiff,Nat.reduceBEq,Int.reduceNe,Int.reduceEq,Int.reduceLT,Int.reduceLE];refine ag (z:=List.replicate 65 (.int .u8 0)) (by kernel_rfl) ?_;intro w1 aZ;have sM:=aZ.size;have gX:=aZ.below;simp -dsimp only[push_cast,Nat.reduceAdd,Nat.reduceLeDiff,Nat.reduceBEq,Int.reduceNe,Int.reduceEq,Int.reduceLT,Int.reduceLE];refine aA (aFU w1) ?_;rintro _ w2 ⟨rfl,rfl⟩;simp -dsimp only[push_cast,Nat.reduceAdd,Nat.reduceLeDiff,Nat.reduceBEq,Int.reduceNe,Int.reduceEq,Int.reduceLT,Int.reduceLE];have e4:IntKind.u64.wrap 4=4:=by decide
 have e16:IntKind.u64.wrap 16=16:=by decide
 have e15:IntKind.u64.wrap (16-1)=15:=by decide
 refine aA (aOU w2 (h.below gX h.lt)) ?_;rintro _ w3 ⟨rfl,rfl⟩;simp -dsimp only[push_cast,Nat.reduceAdd,Nat.reduceLeDiff,Nat.reduceBEq,Int.reduceNe,Int.reduceEq,Int.reduceLT,Int.reduceLE,e4,e16,e15];refine aL [1,13,44,45,46,47,48,49,50,51,52,53,54,55,56,57] (λz wx=>∃(f m i:Nat) (acc:List UInt8) (cs:List Value),z 1=.int .u64 (m:Int)/\z 13=.int .i64 (i:Int)/\i=57+f/\f<=8/\m<16 ^ (f+1)/\qO f m acc=gk n/\cs.length=65/\cs.drop i=acc.map (λb=>.int .u8 (b.toNat:Int))/\aM wx w.heap.size 284 cs/\Below w.heap.size w wx) (λz _=>(intOf (z 13)).toNat) ?_ ?_
 ·refine⟨8,n,65,[],_,rfl,rfl,rfl,Nat.le_refl _,by omega,rfl,List.length_replicate ..,?_,aZ.aN,gX⟩;rfl
 intro z wx hI;obtain⟨f,m,i,acc,cs,h1,K9,hif,hf,hm,hh,j1,hcd,hB,bT⟩:=hI;have EZ:=bT.size;have aNI:m<18446744073709551616:=Nat.lt_of_lt_of_le hm (Nat.le_trans (Nat.pow_le_pow_right (by omega) (show f+1<=9 by omega)) (by decide))
 have hgd:∃d,m % 16=d:=⟨_,rfl⟩;obtain⟨d,hd⟩:=hgd;have aMY:d<16:=by omega
 have ea:eF .and .u64 (m:Int) 15=(d:Int):=by
  rw[show (15:Int)=((2 ^ 4-1:Nat):Int) from rfl,Em aNI (by omega),pw,<-hd]
 have hq:∃q,m / 16=q:=⟨_,rfl⟩;obtain⟨q,hq⟩:=hq;have es:(m:Int).fdiv (2 ^ min (Int.toNat 4) IntKind.u64.bits)=(q:Int):=by
  rw[OZ (k:=4) rfl (by decide),<-hq]
 have N5:∃j,i=j+1:=⟨i-1,by omega⟩;obtain⟨j,rfl⟩:=N5;have ej:((j:Nat):Int)+1-1=(j:Int):=by omega
 simp -dsimp only[push_cast,Nat.reduceAdd,Nat.reduceLeDiff,Nat.reduceBEq,Int.reduceNe,Int.reduceEq,Int.reduceLT,Int.reduceLE,h1,K9,ea,es,ej];refine⟨λfT=>?_,λaw=>?_⟩
 ·refine⟨⟨by omega,by omega⟩,⟨by omega,by omega⟩,⟨by omega,by omega⟩,?_⟩;rw[Ue d aMY];refine aC hB (by omega) rfl ?_;intro w5 cO;have SX:w5.heap.size=wx.heap.size:=cO.size;simp -dsimp only[push_cast,Nat.reduceAdd,Nat.reduceLeDiff,Nat.reduceBEq,Int.reduceNe,Int.reduceEq,Int.reduceLT,Int.reduceLE,es];cases f with
  | zero=>exact absurd hm (by omega)
  | succ f =>
   rw[qO,if_neg (by omega),hq,hd]at hh;refine⟨⟨f,q,j,PF d::acc,_,rfl,rfl,by omega,by omega,?_,hh,by rw[List.length_set];exact j1,?_,cO.aN,bT.trans (cO.kept.below EZ (λg hg=>Nat.le_of_eq (Eq.symm hg)))⟩,by rw[K9];simp only[intOf];omega⟩
   ·rw[<-hq];refine Nat.div_lt_of_lt_mul ?_;rw[Nat.mul_comm,<-Nat.pow_succ];exact hm
   rw[List.drop_set,if_neg (by omega),Nat.sub_self,List.drop_eq_getElem_cons (by omega),List.set_cons_zero,hcd,List.map_cons]
 have Dc:PF m::acc=gk n:=by
  rw[<-hh];cases f with
  | zero=>rfl
  | succ f=>rw[qO,if_pos (by omega)]
 have aNH:m<16:=by omega
 refine⟨⟨by omega,by omega⟩,⟨by omega,by omega⟩,⟨by omega,by omega⟩,?_⟩;rw[Ue m aNH];refine aC hB (by omega) rfl ?_;intro w5 cO;have SX:w5.heap.size=wx.heap.size:=cO.size;simp -dsimp only[push_cast,Nat.reduceAdd,Nat.reduceLeDiff,Nat.reduceBEq,Int.reduceNe,Int.reduceEq,Int.reduceLT,Int.reduceLE];refine SM (n:=65) (s:=1) (e:=5) (by kernel_rfl) (by kernel_rfl) (by kernel_rfl) (by rfl) rfl (by omega) ?_;simp -dsimp only[push_cast,Nat.reduceAdd,Nat.reduceLeDiff,Nat.reduceBEq,Int.reduceNe,Int.reduceEq,Int.reduceLT,Int.reduceLE];have qS:Sl (λ_=>False) 1 (En aHA) w5 (.slice (some ⟨w.heap.size,j,none⟩) (65-j) (65-j)) (PF m::acc):=by
  refine aBQ (f:=λb:UInt8=>.int .u8 (b.toNat:Int)) cO.aN ?_ ?_ ?_
  ·rw[List.drop_set,if_neg (by omega),Nat.sub_self,List.drop_eq_getElem_cons (by omega),List.set_cons_zero,hcd,List.map_cons]
  ·have:=congrArg List.length hcd;rw[List.length_drop,List.length_map,j1]at this;rw[List.length_cons];omega
  have:=congrArg List.length hcd;rw[List.length_drop,List.length_map,j1]at this;rw[List.length_cons];omega
 refine aON (e:=5) (by kernel_rfl) (by kernel_rfl) (by kernel_rfl) qS ?_;simp -dsimp only[push_cast,Nat.reduceAdd,Nat.reduceLeDiff,Nat.reduceBEq,Int.reduceNe,Int.reduceEq,Int.reduceLT,Int.reduceLE];rw[Dc];exact⟨rfl,bT.trans (cO.kept.below EZ (λg hg=>Nat.le_of_eq (Eq.symm hg)))⟩
theorem VE (n:Nat)(hn:n<4294967296)(w:World)(h:Db w):bE Tryz.prog 162 [.int .i64 (n:Int),.int .i64 16] w λr w'=>r=str (gk n)/\Below w.heap.size w w':=by
 refine aE Tryz.func162 rfl (by kernel_rfl) [4] rfl ?_;simp -dsimp (maxSteps:=4000000) only[push_cast,oy,Tryz.ntmps162,List.length_cons,List.length_nil,Nat.reduceAdd,Nat.reduceSub,Nat.reduceBEq,List.replicate_succ,List.replicate_zero];have e1:IntKind.u64.wrap (n:Int)=(n:Int):=by rw[fS,Nat.mod_eq_of_lt (by omega)]
 have e2:decide ((n:Int)<0)=false:=decide_eq_false (by omega);simp -dsimp only[push_cast,Nat.reduceAdd,Nat.reduceLeDiff,Nat.reduceBEq,Int.reduceNe,Int.reduceEq,Int.reduceLT,Int.reduceLE,e1,e2];refine aA (Fc n hn w h) ?_;rintro _ w1 ⟨rfl,hb⟩;simp -dsimp only[push_cast,Nat.reduceAdd,Nat.reduceLeDiff,Nat.reduceBEq,Int.reduceNe,Int.reduceEq,Int.reduceLT,Int.reduceLE];exact hb
theorem aDO (n:Nat)(hn:n<4294967296)(w:World)(h:Db w):bE Tryz.prog 141 [.int .i64 (n:Int),.int .i64 16] w λr w'=>r=str (gk n)/\Below w.heap.size w w':=by
 refine aE Tryz.func141 rfl (by kernel_rfl) [4] rfl ?_;simp -dsimp (maxSteps:=4000000) only[push_cast,oy,Tryz.ntmps141,List.length_cons,List.length_nil,Nat.reduceAdd,Nat.reduceSub,Nat.reduceBEq,List.replicate_succ,List.replicate_zero];refine aA (VE n hn w h) ?_;rintro _ w1 ⟨rfl,hb⟩;simp -dsimp only[push_cast,Nat.reduceAdd,Nat.reduceLeDiff,Nat.reduceBEq,Int.reduceNe,Int.reduceEq,Int.reduceLT,Int.reduceLE];exact hb
theorem aCM (n:Nat)(hn:n<4294967296)(w:World)(h:Db w):bE Tryz.prog 109 [.int .i64 (n:Int)] w λr w'=>r=str (gk n)/\Below w.heap.size w w':=by
 refine aE Tryz.func109 rfl (by kernel_rfl) [2] rfl ?_;simp -dsimp (maxSteps:=4000000) only[push_cast,oy,Tryz.ntmps109,List.length_cons,List.length_nil,Nat.reduceAdd,Nat.reduceSub,Nat.reduceBEq,List.replicate_succ,List.replicate_zero];refine aA (aDO n hn w h) ?_;rintro _ w1 ⟨rfl,hb⟩;simp -dsimp only[push_cast,Nat.reduceAdd,Nat.reduceLeDiff,Nat.reduceBEq,Int.reduceNe,Int.reduceEq,Int.reduceLT,Int.reduceLE];exact hb
end Go.Proofs.YtledlfbbebodgaaGreatDoor
end
section
namespace Go.Vc
open Go.RowKit
def encS (b:List UInt8):List Value:=[str b]
theorem Sl.strs {X:Nat->Prop}{w:World}{v:Value}{x:List UInt8}{l:List (List UInt8)}(h:Sl X 1 (En encS) w v (x::l)):∃b o c,v=.slice (some ⟨b,o,none⟩) (x::l).length c/\(x::l).length<=c/\b<w.heap.size/\∀(j:Nat) y,((x::l).map λt:List UInt8=>(⟨t.toArray⟩:ByteArray))[j]?=some y->w.cell? ⟨b,o+j,none⟩=some (.string y):=by
 obtain⟨a,c,rfl,hc,yN⟩:=h;have h0:=yN 0 x rfl;obtain⟨b,o,cs,rfl,hb,iW,aK,hr⟩:=h0;have cN:∀(j:Nat) y,((x::l).map λt:List UInt8=>(⟨t.toArray⟩:ByteArray))[j]?=some y->w.cell? ⟨b,o+j,none⟩=some (.string y):=by
  intro j y hy;rw[List.getElem?_map]at hy;cases hx:(x::l)[j]? with
  | none=>rw[hx]at hy;cases hy
  | some t =>
   rw[hx]at hy;cases hy;have h1:=yN j t hx;obtain⟨b1,o1,cs1,he,gX,aSP,aEx,Iu⟩:=h1;cases he
   have:=aEx 0 (str t) (by rw[Iu];rfl);rwa [Nat.mul_one,Nat.add_zero]at this
 exact⟨b,o,c,rfl,hc,World.block_lt_of_cell? w _ (cN 0 _ rfl),cN⟩
end Go.Vc
namespace Go.Proofs.YtledlfbbebodgaaGreatDoor
open Go.Vc Go.Proofs Go.RowKit Cae
attribute [local irreducible] dd ae ak a7 runK bE Sl Vc.Own vc aU cJ a8
def Dn:Go.Shelf.Ren:=⟨λ| 156=>110|165=>142|166=>143|169=>144|240=>163|241=>164|276=>190|277=>191|n=>n,λ| 31=>192|9=>9|3=>3|4=>4|0=>0|20=>20|72=>231|76=>232|70=>228|37=>229|75=>31|127=>248|164=>177|5=>5|80=>174|n=>n,λ| n=>n⟩
theorem aC3:Go.Proofs.Lays.n156 Tryz.prog Dn:={
 mixed:=by kernel_rfl
 f156:=Tryz.func110.trans (congrArg some (by kernel_rfl))
 f165:=Tryz.func142.trans (congrArg some (by kernel_rfl))
 f166:=Tryz.func143.trans (congrArg some (by kernel_rfl))
 f169:=Tryz.func144.trans (congrArg some (by kernel_rfl))
 f240:=Tryz.func163.trans (congrArg some (by kernel_rfl))
 f241:=Tryz.func164.trans (congrArg some (by kernel_rfl))
 f276:=Tryz.func190.trans (congrArg some (by kernel_rfl))
 f277:=Tryz.func191.trans (congrArg some (by kernel_rfl))
 t0:=Tryz.underlying0
 a0:=Tryz.isAgg0
 z0:=Tryz.sizeOf0
 v0:=Tryz.zeroValue0
 t3:=Tryz.underlying3
 a3:=Tryz.isAgg3
 z3:=Tryz.sizeOf3
 v3:=Tryz.zeroValue3
 t4:=Tryz.underlying4
 a4:=Tryz.isAgg4
 z4:=Tryz.sizeOf4
 v4:=Tryz.zeroValue4
 t9:=Tryz.underlying9
 a9:=Tryz.isAgg9
 z9:=Tryz.sizeOf9
 v9:=Tryz.zeroValue9
 t20:=Tryz.underlying20
 a20:=Tryz.isAgg20
 z20:=Tryz.sizeOf20
 v20:=Tryz.zeroValue20
 t31:=Tryz.underlying192
 a31:=Tryz.isAgg192
 z31:=Tryz.sizeOf192
 v31:=Tryz.zeroValue192
 t37:=Tryz.underlying229
 a37:=Tryz.isAgg229
 z37:=Tryz.sizeOf229
 v37:=Tryz.zeroValue229
 t70:=Tryz.underlying228
 a70:=Tryz.isAgg228
 z70:=Tryz.sizeOf228
 v70:=Tryz.zeroValue228
 t72:=Tryz.underlying231
 a72:=Tryz.isAgg231
 z72:=Tryz.sizeOf231
 v72:=Tryz.zeroValue231
 t75:=Tryz.underlying31
 a75:=Tryz.isAgg31
 z75:=Tryz.sizeOf31
 v75:=Tryz.zeroValue31
 t76:=Tryz.underlying232
 a76:=Tryz.isAgg232
 z76:=Tryz.sizeOf232
 v76:=Tryz.zeroValue232
 t127:=Tryz.underlying248
 a127:=Tryz.isAgg248
 z127:=Tryz.sizeOf248
 v127:=Tryz.zeroValue248
 t164:=Tryz.underlying177
 a164:=Tryz.isAgg177
 z164:=Tryz.sizeOf177
 v164:=Tryz.zeroValue177 }
theorem aC4:Builder.Extra Tryz.prog Dn where
 sizeBuilder:=by kernel_rfl
 liesBuilder:=by kernel_rfl
 t5:=by kernel_rfl
 a5:=λw=>(nT (P:=Tryz.prog) (by kernel_rfl) w).1
 z5:=λw=>(nT (P:=Tryz.prog) (by kernel_rfl) w).2
 v5:=by intro w;rfl
 infoByte:=by kernel_rfl
 cellsByte:=by kernel_rfl
 sizeByte:=by kernel_rfl
 neB5:=by decide
theorem aFq (l:List (List UInt8))(sep:List UInt8)(hN:l.length<1000000000)(hlen:(Lib.join l sep).length<=140737488355328)(X:Nat->Prop)(v:Value)(w:World)(hv:Sl X 1 (En encS) w v l) :
  bE Tryz.prog 110 [v,str sep] w λr w'=>r=str (Lib.join l sep)/\Below w.heap.size w w':=by
 refine cR Tryz.func110 (by kernel_rfl) (by kernel_rfl) ?_;cases l with
 | nil =>
  have eW:=hv.shape;obtain⟨a,c,rfl,hc⟩:=eW;refine Calls.mono (Any.strings_Join_none aC3 aC4 a c ⟨sep.toArray⟩ w) ?_;rintro e w' ⟨rfl,rfl⟩;exact⟨_,rfl,rfl,Below.refl _ _⟩
 | cons x l =>
  have qS:=hv.strs;obtain⟨b,o,c,rfl,hc,hb,aK⟩:=qS;have e1:(((x::l).map λt:List UInt8=>(⟨t.toArray⟩:ByteArray)).map (·.data.toList))=x::l:=by
   rw[List.map_map];exact List.map_id' _
  have hj:=Any.strings_Join aC3 aC4 b o c ((x::l).map λt:List UInt8=>(⟨t.toArray⟩:ByteArray)) ⟨sep.toArray⟩ w aK hb (by rw[List.length_map];omega) (by rw[List.length_map];exact hc) (by rw[e1];exact hlen);rw[e1,List.length_map]at hj;refine Calls.mono hj ?_;rintro e w' ⟨rfl,hbl⟩;exact⟨_,rfl,rfl,hbl⟩
end Go.Proofs.YtledlfbbebodgaaGreatDoor
end
section
namespace Cae
def rl (r:Rg):List UInt8:=gk r.1.toNat++(if r.1<r.2 then 45::gk r.2.toNat else [])
def gW (s:List Rg):List UInt8:=91::(Go.Lib.join (s.map rl) [32]++[93])
def Wr (s:List Rg):Prop:=∀r∈s,0<=r.1/\r.1<4294967296/\r.2<4294967296
theorem OO (r:Rg):(rl r).length<=19:=by
 unfold rl;have h1:=uK r.1.toNat;have h2:=uK r.2.toNat;split<;>simp<;>omega
theorem Qt (s:List Rg):(Go.Lib.join (s.map rl) [32]).length<=20*s.length:=by
 cases s with
 | nil=>simp[Go.Lib.join_nil]
 | cons r s =>
  rw[List.map_cons,Go.Lib.join_cons,List.length_append,Go.Lib.joinTail_length];have h1:=OO r;have h2:Go.Lib.lens (s.map rl)<=19*s.length:=by
   induction s with
   | nil=>simp[Go.Lib.lens]
   | cons q s ih =>
    have:=OO q;simp only[Go.Lib.lens,List.map_cons,List.sum_cons,List.length_cons]at ih ⊢
    omega
  simp only[List.length_cons,List.length_nil,List.length_map];omega
theorem CG:∀{s:List Rg} {a:Int},-2<=a->aP a s=true->Wr s
 | [],_,_,_=>λr hr=>by cases hr
 | q::s,a,ha,h=>by
  rw[cC]at h;intro r hr;rcases List.mem_cons.1 hr with rfl|hr
  ·omega
  exact CG (by omega) h.2 r hr
end Cae
namespace Go.Proofs.YtledlfbbebodgaaGreatDoor
open Go.Vc Go.Proofs Go.RowKit Cae
attribute [local irreducible] dd ae ak a7 runK bE Sl Vc.Own vc aU cJ a8
theorem OL (s:List Rg)(hs:s.length<10000000)(hw:Wr s)(X:Nat->Prop)(v:Value)(w:World)(hv:Sl X 2 (En bL) w v s)(h:Db w) :
  bE Tryz.prog 66 [v] w λr w'=>r=str (gW s)/\Below w.heap.size w w':=by
 obtain⟨a,c,rfl,hc⟩:=hv.shape;refine aE Tryz.func66 rfl (by kernel_rfl) [2] rfl ?_;push_cast -dsimp(maxSteps:=4000000) [Tryz.ntmps66];refine aL [3,5,6,9,10,11,12,13,14,15,16,17,18,19,20,21,22,23,24,25,26,27,28,29,30,31] (λz wx=>∃(i:Nat) (ov:Value),z 9=.int .i64 i/\z 3=ov/\i<=s.length/\Vc.Own w.heap.size 9 1 encS wx ov ((s.take i).map rl)/\Below w.heap.size w wx) (λz _=>s.length-(intOf (z 9)).toNat) ?_ ?_
 ·exact⟨0,_,rfl,rfl,Nat.zero_le _,Vc.Own.nil (enc:=encS) _ _ (λ_=>rfl) _,Below.refl _ _⟩
 intro z wx hI;obtain⟨i,ov,h9,h3,hi,kB,bT⟩:=hI;have EZ:=bT.size;push_cast -dsimp[h9,h3];refine⟨λaw=>?_,λfT=>?_⟩
 ·have hg:=au (l:=s) (i:=i) (by omega);obtain⟨x,hx,jQ,_,ht⟩:=hg;have od:=hv.below bT;have hg:=od.get hx;obtain⟨b,o,rfl,jh,aK⟩:=hg;have cx:aB wx ⟨b,o+i*2,none⟩ 0 2=some [.int .i64 x.1,.int .i64 x.2]:=ax (bL x) 0 (λj u hu=>by simpa using aK j u hu);have hxw:=hw x jQ;obtain⟨x1,x2,x3⟩:=hxw;have K8:(s.take (i+1)).map rl=(s.take i).map rl++[rl x]:=by
   rw[ht,List.map_append];rfl
  have hgn:∃n:Nat,x.1=n:=⟨x.1.toNat,by omega⟩;obtain⟨n,hn⟩:=hgn;rw[hn]at cx;push_cast -dsimp[cx];refine⟨⟨by omega,by omega⟩,?_⟩;refine ag (z:=[.int .i64 0,.int .i64 0]) (by kernel_rfl) ?_;intro w3 dZ;have TJ:=dZ.size;push_cast -dsimp;refine aJ (n:=2) (by kernel_rfl) dZ.aN rfl (by simp) (by simp[Value.oneCell']) ?_;intro w4 az;have Yu:=az.size;have c0:w4.cell? ⟨wx.heap.size,0,none⟩=some (.int .i64 (n:Int)):=az.aN.cell rfl;have c1:w4.cell? ⟨wx.heap.size,1,none⟩=some (.int .i64 x.2):=az.aN.cell rfl;push_cast -dsimp[c0,c1];have k4:Kept (λj=>j=wx.heap.size) wx w4:=(Kept.new dZ).trans az.kept (λ_ _ h=>h);have qQ:=kB.aI k4 (λg hg h=>by have:=kB.block g hg;omega);have kj:Below w.heap.size w w4:=bT.trans (k4.below EZ (λ_ h=>by omega));have eW:=qQ.slice;obtain⟨oa,oc,rfl⟩:=eW;refine aA (aCM n (by omega) w4 (h.below kj h.lt)) ?_;rintro _ w5 ⟨rfl,ng⟩;have SX:=ng.size;have ho5:=qQ.below ng;have Zo:=kj.trans (ng.mono (show w.heap.size<=w4.heap.size by omega))
  have c5:w5.cell? ⟨wx.heap.size,0,none⟩=some (.int .i64 (n:Int)):=(ng.cell (by show wx.heap.size<w4.heap.size;omega)).trans c0
  have c5':w5.cell? ⟨wx.heap.size,1,none⟩=some (.int .i64 x.2):=(ng.cell (by show wx.heap.size<w4.heap.size;omega)).trans c1
  push_cast -dsimp[c5,c5'];refine⟨λHF=>?_,λhle=>?_⟩
  ·have hgm:∃m:Nat,x.2=m:=⟨x.2.toNat,by omega⟩;obtain⟨m,hm⟩:=hgm;have hrg:rl x=gk n++45::gk m:=by unfold rl;rw[if_pos (by omega),hn,hm];rfl
   rw[hm]at c5';rw[hm];refine aA (aCM m (by omega) w5 (h.below Zo h.lt)) ?_;rintro _ w6 ⟨rfl,lp⟩;have Mm:=lp.size;have vv:=ho5.below lp;have yI:=Zo.trans (lp.mono (show w.heap.size<=w5.heap.size by omega))
   have vn:=uK n;have mn:=uK m;push_cast -dsimp;refine⟨by omega,by simp only[List.length_append,List.length_cons,List.length_nil];omega,?_⟩;refine cT yg rfl rfl (by omega) ?_;intro w7 fh;have Mn:w7.heap.size=w6.heap.size+1:=fh.size;have rN:=vv.new fh;push_cast -dsimp;refine aS (base:=w.heap.size) [rl x] (enc:=encS) yg rN (by rfl) (λj u hu=>by rw[hrg]at hu;rw[Nat.zero_add];exact fh.cell hu) (by simp[encS,str,Value.oneCell']) (by simp only[List.length_cons,List.length_nil,List.length_map,List.length_take];omega) (by omega) ?_;intro v8 w8 tU Sy hn8;have jg:Below w.heap.size w w8:=(yI.trans (fh.below.mono (by omega))).trans ((Kept.grown (X:=λj=>w.heap.size<=j) Sy (λk hk=>(rN.block k hk).1)).below (by omega) (λ_ h=>h));rw[<-K8]at tU;push_cast -dsimp;exact⟨⟨by omega,by omega⟩,⟨i+1,_,rfl,rfl,by omega,tU,jg⟩,by rw[h9];simp only[intOf];omega⟩
  have hrg:rl x=gk n:=by unfold rl;rw[if_neg (by omega),hn];exact List.append_nil _
  refine cT yg rfl rfl (by omega) ?_;intro w7 fh;have Mn:w7.heap.size=w5.heap.size+1:=fh.size;have rN:=ho5.new fh;push_cast -dsimp;refine aS (base:=w.heap.size) [rl x] (enc:=encS) yg rN (by rfl) (λj u hu=>by rw[hrg]at hu;rw[Nat.zero_add];exact fh.cell hu) (by simp[encS,str,Value.oneCell']) (by simp only[List.length_cons,List.length_nil,List.length_map,List.length_take];omega) (by omega) ?_;intro v8 w8 tU Sy hn8;have jg:Below w.heap.size w w8:=(Zo.trans (fh.below.mono (by omega))).trans ((Kept.grown (X:=λj=>w.heap.size<=j) Sy (λk hk=>(rN.block k hk).1)).below (by omega) (λ_ h=>h));rw[<-K8]at tU;push_cast -dsimp;exact⟨⟨by omega,by omega⟩,⟨i+1,_,rfl,rfl,by omega,tU,jg⟩,by rw[h9];simp only[intOf];omega⟩
 have nH:i=s.length:=by omega
 subst nH;rw[List.take_length]at kB;have hjl:=Qt s;refine aA (aFq (s.map rl) [32] (by rw[List.length_map];omega) (by omega) _ _ wx kB.sl) ?_;rintro _ w6 ⟨rfl,lp⟩;have yI:=bT.trans (lp.mono EZ);push_cast -dsimp;refine⟨by omega,by simp only[List.length_append,List.length_cons,List.length_nil];omega,?_,yI⟩;rfl
end Go.Proofs.YtledlfbbebodgaaGreatDoor
end
section
namespace Cae
def mH (c:UInt8)(s:List UInt8):List UInt8×List UInt8×Bool:=if s.contains c then (s.takeWhile (· != c),(s.dropWhile (· != c)).drop 1,true) else (s,[],false)
def splitB (c:UInt8):List UInt8->List (List UInt8)
 | []=>[[]]
 | b::r=>if b == c then []::splitB c r else match splitB c r with
  | []=>[[b]]
  | p::ps=>(b::p)::ps
theorem uT (c:UInt8):∀s:List UInt8,Go.Lib.indexByte s c=if s.contains c then ((s.takeWhile (· != c)).length:Int) else -1
 | []=>rfl
 | b::r=>by
  rw[Go.Lib.indexByte,List.contains_cons,uT c r,List.takeWhile_cons];by_cases h:b=c
  ·subst h;simp
  have h1:(b == c)=false:=by simpa using h
  have h2:(c == b)=false:=by simpa using(λe=>h e.symm:¬c=b)
  have h3:(b != c)=true:=by simp[h]
  rw[h1,h2,h3,Bool.false_or];cases hc:r.contains c with
  | true =>
   have:¬((((r.takeWhile (· != c)).length:Nat):Int) == -1)=true:=by simp
   simp only[if_true,if_neg this,Bool.false_eq_true,if_false,List.length_cons];omega
  | false=>simp
theorem zI (p:UInt8->Bool):∀s:List UInt8,s.take (s.takeWhile p).length=s.takeWhile p
 | []=>rfl
 | b::r=>by
  rw[List.takeWhile_cons];split
  ·rw[List.length_cons,List.take_succ_cons,zI p r]
  rfl
theorem FG (p:UInt8->Bool):∀s:List UInt8,s.drop (s.takeWhile p).length=s.dropWhile p
 | []=>rfl
 | b::r=>by
  rw[List.takeWhile_cons,List.dropWhile_cons];split
  ·rw[List.length_cons,List.drop_succ_cons,FG p r]
  rfl
theorem O7 {c:UInt8}:∀{s:List UInt8},s.contains c=true->(s.takeWhile (· != c)).length<s.length
 | [],h=>by cases h
 | b::r,h=>by
  rw[List.takeWhile_cons];split
  ·rename_i hb;have:r.contains c=true:=by
    rw[List.contains_cons,Bool.or_eq_true]at h;rcases h with h|h
    ·have:c=b:=by simpa using h
     subst this;simp at hb
    exact h
   have:=O7 this;simp only[List.length_cons];omega
  simp
theorem Mu {c:UInt8}:∀{s:List UInt8},s.contains c=false->s.takeWhile (· != c)=s
 | [],_=>rfl
 | b::r,h=>by
  rw[List.contains_cons,Bool.or_eq_false_iff]at h;have h1:(b != c)=true:=by have:=h.1;simp at this;simp;exact λe=>this e.symm
  rw[List.takeWhile_cons,if_pos h1,Mu h.2]
theorem ru (p:UInt8->Bool):∀s:List UInt8,(s.dropWhile p).length<=s.length
 | []=>Nat.le_refl _
 | b::r=>by
  have:=ru p r;rw[List.dropWhile_cons];split<;>simp<;>omega
theorem U7 (c:UInt8)(s:List UInt8):(mH c s).1.length<=s.length/\(mH c s).2.1.length<=s.length:=by
 unfold mH;split
 ·rename_i h;have h1:=O7 h;have h2:=ru (· != c) s;refine⟨by show (s.takeWhile (· != c)).length<=_;omega,?_⟩
  show ((s.dropWhile (· != c)).drop 1).length<=_
  rw[List.length_drop];omega
 simp
theorem SP (c:UInt8):∀s,splitB c s≠[]
 | []=>by simp[splitB]
 | b::r=>by
  rw[splitB];split
  ·simp
  split<;>simp
theorem r5 (c:UInt8):∀s:List UInt8,splitB c s=s.takeWhile (· != c)::(if s.contains c then splitB c ((s.dropWhile (· != c)).drop 1) else [])
 | []=>rfl
 | b::r=>by
  rw[splitB,List.takeWhile_cons,List.dropWhile_cons,List.contains_cons];by_cases h:b=c
  ·subst h;simp
  have h1:(b == c)=false:=by simpa using h
  have h2:(c == b)=false:=by simpa using λe=>h e.symm
  have h3:(b != c)=true:=by simp[h]
  rw[h1,h2,h3,Bool.false_or,r5 c r];rfl
theorem tM (c:UInt8):∀s:List UInt8,(splitB c s).length<=s.length+1
 | []=>by simp[splitB]
 | b::r=>by
  have h:=tM c r;rw[splitB];split
  ·simp;omega
  cases hs:splitB c r with
  | nil=>simp
  | cons p ps=>rw[hs]at h;simp at h ⊢;omega
theorem pS (c:UInt8):∀(s p:List UInt8),p∈splitB c s->p.length<=s.length
 | [],p,h=>by simp[splitB]at h;subst h;simp
 | b::r,p,h=>by
  rw[splitB]at h;split at h
  ·rcases List.mem_cons.1 h with rfl|h
   ·simp
   have:=pS c r p h;simp;omega
  cases hs:splitB c r with
  | nil=>exact absurd hs (SP c r)
  | cons q qs =>
   rw[hs]at h;rcases List.mem_cons.1 h with rfl|h
   ·have:=pS c r q (by rw[hs];simp);simp;omega
   have:=pS c r p (by rw[hs];simp[h]);simp;omega
end Cae
namespace Go.Proofs.YtledlfbbebodgaaGreatDoor
open Go.Vc Go.Proofs Go.RowKit Cae
attribute [local irreducible] dd ae ak a7 runK bE Sl Vc.Own vc aU cJ a8
def Lz:Go.Shelf.Ren:=⟨λ| 143=>212|219=>213|217=>158|225=>125|224=>124|267=>223|266=>178|314=>229|n=>n,λ| 9=>9|3=>3|4=>4|5=>5|46=>103|146=>305|51=>244|n=>n,λ| 1=>3|n=>n⟩
theorem aFm:Go.Proofs.Lays.n143 Tryz.prog Lz:={
 mixed:=by kernel_rfl
 f143:=Tryz.func212.trans (congrArg some (by kernel_rfl))
 f217:=Tryz.func158.trans (congrArg some (by kernel_rfl))
 f219:=Tryz.func213.trans (congrArg some (by kernel_rfl))
 f224:=Tryz.func124.trans (congrArg some (by kernel_rfl))
 f225:=Tryz.func125.trans (congrArg some (by kernel_rfl))
 f266:=Tryz.func178.trans (congrArg some (by kernel_rfl))
 f267:=Tryz.func223.trans (congrArg some (by kernel_rfl))
 f314:=Tryz.func229.trans (congrArg some (by kernel_rfl))
 t3:=Tryz.underlying3
 a3:=Tryz.isAgg3
 z3:=Tryz.sizeOf3
 v3:=Tryz.zeroValue3
 t4:=Tryz.underlying4
 a4:=Tryz.isAgg4
 z4:=Tryz.sizeOf4
 v4:=Tryz.zeroValue4
 t5:=Tryz.underlying5
 a5:=Tryz.isAgg5
 z5:=Tryz.sizeOf5
 v5:=Tryz.zeroValue5
 t9:=Tryz.underlying9
 a9:=Tryz.isAgg9
 z9:=Tryz.sizeOf9
 v9:=Tryz.zeroValue9
 t46:=Tryz.underlying103
 a46:=Tryz.isAgg103
 z46:=Tryz.sizeOf103
 v46:=Tryz.zeroValue103
 t51:=Tryz.underlying244
 a51:=Tryz.isAgg244
 z51:=Tryz.sizeOf244
 v51:=Tryz.zeroValue244
 t146:=Tryz.underlying305
 a146:=Tryz.isAgg305
 z146:=Tryz.sizeOf305
 v146:=Tryz.zeroValue305
 g1:=by kernel_rfl }
def JB:Go.Shelf.Ren:=⟨λ| 219=>213|217=>158|225=>125|224=>124|267=>223|266=>178|314=>229|n=>n,λ| 9=>9|3=>3|4=>4|5=>5|46=>103|146=>305|51=>244|n=>n,λ| 1=>3|n=>n⟩
theorem aAQ:Go.Proofs.Lays.n219 Tryz.prog JB:={
 mixed:=by kernel_rfl
 f217:=Tryz.func158.trans (congrArg some (by kernel_rfl))
 f219:=Tryz.func213.trans (congrArg some (by kernel_rfl))
 f224:=Tryz.func124.trans (congrArg some (by kernel_rfl))
 f225:=Tryz.func125.trans (congrArg some (by kernel_rfl))
 f266:=Tryz.func178.trans (congrArg some (by kernel_rfl))
 f267:=Tryz.func223.trans (congrArg some (by kernel_rfl))
 f314:=Tryz.func229.trans (congrArg some (by kernel_rfl))
 t3:=Tryz.underlying3
 a3:=Tryz.isAgg3
 z3:=Tryz.sizeOf3
 v3:=Tryz.zeroValue3
 t4:=Tryz.underlying4
 a4:=Tryz.isAgg4
 z4:=Tryz.sizeOf4
 v4:=Tryz.zeroValue4
 t5:=Tryz.underlying5
 a5:=Tryz.isAgg5
 z5:=Tryz.sizeOf5
 v5:=Tryz.zeroValue5
 t9:=Tryz.underlying9
 a9:=Tryz.isAgg9
 z9:=Tryz.sizeOf9
 v9:=Tryz.zeroValue9
 t46:=Tryz.underlying103
 a46:=Tryz.isAgg103
 z46:=Tryz.sizeOf103
 v46:=Tryz.zeroValue103
 t51:=Tryz.underlying244
 a51:=Tryz.isAgg244
 z51:=Tryz.sizeOf244
 v51:=Tryz.zeroValue244
 t146:=Tryz.underlying305
 a146:=Tryz.isAgg305
 z146:=Tryz.sizeOf305
 v146:=Tryz.zeroValue305
 g1:=by kernel_rfl }
def Hc:Go.Shelf.Ren:=⟨λ| 103=>179|210=>196|206=>208|n=>n,λ| 9=>9|4=>4|24=>261|3=>3|n=>n,λ| n=>n⟩
theorem Z7:Go.Proofs.Lays.n103 Tryz.prog Hc:={
 mixed:=by kernel_rfl
 f103:=Tryz.func179.trans (congrArg some (by kernel_rfl))
 f206:=Tryz.func208.trans (congrArg some (by kernel_rfl))
 f210:=Tryz.func196.trans (congrArg some (by kernel_rfl))
 t3:=Tryz.underlying3
 a3:=Tryz.isAgg3
 z3:=Tryz.sizeOf3
 v3:=Tryz.zeroValue3
 t4:=Tryz.underlying4
 a4:=Tryz.isAgg4
 z4:=Tryz.sizeOf4
 v4:=Tryz.zeroValue4
 t9:=Tryz.underlying9
 a9:=Tryz.isAgg9
 z9:=Tryz.sizeOf9
 v9:=Tryz.zeroValue9
 t24:=Tryz.underlying261
 a24:=Tryz.isAgg261
 z24:=Tryz.sizeOf261
 v24:=Tryz.zeroValue261 }
def Hd:Go.Shelf.Ren:=⟨λ| 104=>180|211=>197|207=>209|n=>n,λ| 9=>9|4=>4|24=>261|3=>3|n=>n,λ| n=>n⟩
theorem Z8:Go.Proofs.Lays.n104 Tryz.prog Hd:={
 mixed:=by kernel_rfl
 f104:=Tryz.func180.trans (congrArg some (by kernel_rfl))
 f207:=Tryz.func209.trans (congrArg some (by kernel_rfl))
 f211:=Tryz.func197.trans (congrArg some (by kernel_rfl))
 t3:=Tryz.underlying3
 a3:=Tryz.isAgg3
 z3:=Tryz.sizeOf3
 v3:=Tryz.zeroValue3
 t4:=Tryz.underlying4
 a4:=Tryz.isAgg4
 z4:=Tryz.sizeOf4
 v4:=Tryz.zeroValue4
 t9:=Tryz.underlying9
 a9:=Tryz.isAgg9
 z9:=Tryz.sizeOf9
 v9:=Tryz.zeroValue9
 t24:=Tryz.underlying261
 a24:=Tryz.isAgg261
 z24:=Tryz.sizeOf261
 v24:=Tryz.zeroValue261 }
theorem aAS (s:List UInt8)(c:UInt8)(w:World):bE Tryz.prog 212 [str s,str [c]] w λr w'=>r=.int .i64 (Lib.indexByte s c)/\w'=w:=by
 refine cR Tryz.func212 (by kernel_rfl) (by kernel_rfl) ?_;refine Calls.mono (Any.strings_Index_one aFm ⟨s.toArray⟩ c w) ?_;rintro e w' ⟨rfl,rfl⟩;exact⟨_,rfl,rfl,rfl⟩
theorem aAR (s:List UInt8)(c:UInt8)(w:World):bE Tryz.prog 213 [str s,str [c]] w λr w'=>r=.int .i64 (Lib.indexByte s c)/\w'=w:=by
 refine cR Tryz.func213 (by kernel_rfl) (by kernel_rfl) ?_;refine Calls.mono (Any.stringslite_Index_one aAQ ⟨s.toArray⟩ c w) ?_;rintro e w' ⟨rfl,rfl⟩;exact⟨_,rfl,rfl,rfl⟩
theorem U8 (s p:List UInt8)(w:World):bE Tryz.prog 179 [str s,str p] w λr w'=>r=.tuple #[str (Lib.trimPrefix s p),.bool (Lib.hasPrefix s p)]/\w'=w:=by
 refine cR Tryz.func179 (by kernel_rfl) (by kernel_rfl) ?_;refine Calls.mono (Any.strings_CutPrefix Z7 ⟨s.toArray⟩ ⟨p.toArray⟩ w) ?_;rintro e w' ⟨rfl,rfl⟩;exact⟨_,rfl,rfl,rfl⟩
theorem Ua (s p:List UInt8)(hs:s.length<=9223372036854775807)(w:World):bE Tryz.prog 180 [str s,str p] w λr w'=>r=.tuple #[str (Lib.trimSuffix s p),.bool (Lib.hasSuffix s p)]/\w'=w:=by
 refine cR Tryz.func180 (by kernel_rfl) (by kernel_rfl) ?_;refine Calls.mono (Any.strings_CutSuffix Z8 ⟨s.toArray⟩ ⟨p.toArray⟩ w hs) ?_;rintro e w' ⟨rfl,rfl⟩;exact⟨_,rfl,rfl,rfl⟩
theorem aHq (s:List UInt8)(c:UInt8)(hs:s.length<=1000000000)(w:World):bE Tryz.prog 199 [str s,str [c]] w λr w'=>r=.tuple #[str (mH c s).1,str (mH c s).2.1,.bool (mH c s).2.2]/\Below w.heap.size w w':=by
 refine aE Tryz.func199 rfl (by kernel_rfl) [4,5,6] rfl ?_;push_cast -dsimp(maxSteps:=4000000) [Tryz.ntmps199];refine aA (aAR s c w) ?_;rintro _ w1 ⟨rfl,rfl⟩;rw[uT];unfold mH;cases hc:s.contains c with
 | false =>
  simp only[Bool.false_eq_true,if_false];push_cast -dsimp;exact Below.refl _ _
 | true =>
  simp only[if_true];have aw:=O7 hc;have hg:∃k,(s.takeWhile (· != c)).length=k:=⟨_,rfl⟩;obtain⟨k,hk⟩:=hg;have h1:s.takeWhile (· != c)=s.take k:=by rw[<-hk];exact(zI _ s).symm
  have h2:(s.dropWhile (· != c)).drop 1=s.drop (k+1):=by rw[<-FG,List.drop_drop,hk]
  rw[h1,h2];rw[hk]at aw;have h3:(s.take k).length=k:=by rw[List.length_take];omega
  rw[h3];have fT:decide ((k:Int)>=0)=true:=decide_eq_true (by omega);push_cast -dsimp[fT];refine bx (λ_=>True) mixed (by kernel_rfl) trivial ?_;push_cast -dsimp;refine⟨by omega,by omega,by omega,?_,(Below.refl _ _).drew⟩;rw[show ((k:Int)+1).toNat=k+1 by omega]
theorem aHp (s:List UInt8)(c:UInt8)(hs:s.length<=1000000000)(w:World):bE Tryz.prog 182 [str s,str [c]] w λr w'=>r=.tuple #[str (mH c s).1,str (mH c s).2.1,.bool (mH c s).2.2]/\Below w.heap.size w w':=by
 refine aE Tryz.func182 rfl (by kernel_rfl) [4,5,6] rfl ?_;push_cast -dsimp(maxSteps:=4000000) [Tryz.ntmps182];refine aA (aHq s c hs w) ?_;rintro _ w1 ⟨rfl,hb⟩;push_cast -dsimp;exact hb
end Go.Proofs.YtledlfbbebodgaaGreatDoor
end
section
namespace Go.Vc
open Go.RowKit
def Byt (w:World)(b:Nat)(e:TypeId)(l:List UInt8):Prop :=
 ∃(cs:Array Value) (n:Nat),w.heap[b]?=some (.cells cs e (n,n+1))/\cs.size<=n/\∀(j:Nat) (c:UInt8),l[j]?=some c->cs[j]?=some (Value.int IntKind.u8 (c.toNat:Int))
theorem Byt.cell {w:World}{b:Nat}{e:TypeId}{l:List UInt8}(h:Byt w b e l){j:Nat}{c:UInt8}(hc:l[j]?=some c):w.cell? ⟨b,j,none⟩=some (.int .u8 (c.toNat:Int)):=by
 obtain⟨cs,n,h,_,hh⟩:=h;simp[World.cell?,h,hh j c hc]
theorem aDr {P:Program}{s d e:TypeId}{l:List UInt8}{t:Fr}{w:World}{K:VK}{Q:EP}{p}(hs:P.underlying s=some .string)(hd:P.underlying d=some (.slice e))(he:P.underlying e=some (.int .u8))
  (kk:∀c w',l.length<=c->Byt w' w.heap.size e l->Below w.heap.size w w'->K (.slice (some ⟨w.heap.size,0,none⟩) l.length c) w'):ak P (convert s d (str l)) t w K Q p:=by
 have hr:=run_bytes_of_string (P:=P) w s d e ⟨l.toArray⟩ hs hd he;have GG:ByteArray.size ⟨l.toArray⟩=l.length:=by simp[ByteArray.size]
 refine eu hr ?_;rw[GG];refine kk _ _ (grownCap_ge _ _ _ _) ⟨bytesRow ⟨l.toArray⟩ (grownCap w l.length 0 e),(bytesRow ⟨l.toArray⟩ (grownCap w l.length 0 e)).size,?_,Nat.le_refl _,λj c hj=>?_⟩ ((Below.refl w.heap.size w).drew.alloc (Nat.le_refl _) _)
 ·exact heap_alloc_new w.drew _
 have aw:=(List.getElem?_eq_some_iff.1 hj).1
 have:=bytesRow_at ⟨l.toArray⟩ (grownCap w l.length 0 e) j (by simpa using aw);rw[this];have:l[j]?=some l[j]:=List.getElem?_eq_getElem aw;rw[this]at hj;cases hj;simp
end Go.Vc
end
section
namespace Cae
def dv (b:UInt8):Nat:=if b.toNat<=57 then b.toNat-48 else b.toNat-87
def mT (b:UInt8):Bool:=(decide (48<=b.toNat) && decide (b.toNat<=57)) || (decide (97<=b.toNat) && decide (b.toNat<=102))
def iX (l:List UInt8):Nat:=l.foldl (λm b=>16*m+dv b) 0
theorem rJ:∀d:Nat,d<16->mT (PF d)=true/\dv (PF d)=d:=by decide
theorem Ia:∀(f n:Nat) (acc:List UInt8),n<16 ^ (f+1)->(∀b∈acc,mT b=true)->∀b∈qO f n acc,mT b=true
 | 0,n,acc,hn,h=>by
  rw[qO];intro b hb;rcases List.mem_cons.1 hb with rfl|hb
  ·exact(rJ n (by omega)).1
  exact h b hb
 | f+1,n,acc,hn,h=>by
  rw[qO];split
  ·intro b hb;rcases List.mem_cons.1 hb with rfl|hb
   ·exact(rJ n (by omega)).1
   exact h b hb
  refine Ia f (n / 16) _ (Nat.div_lt_of_lt_mul (by rw[Nat.mul_comm,<-Nat.pow_succ];exact hn)) ?_;intro b hb;rcases List.mem_cons.1 hb with rfl|hb
  ·exact(rJ (n % 16) (by omega)).1
  exact h b hb
theorem D4 (l:List UInt8):∀m:Nat,l.foldl (λm b=>16*m+dv b) m=16 ^ l.length*m+iX l:=by
 unfold iX;induction l with
 | nil=>intro m;simp
 | cons b l ih =>
  intro m;rw[List.foldl_cons,List.foldl_cons,ih,ih (16*0+dv b),List.length_cons,Nat.pow_succ,Nat.mul_add];have:16 ^ l.length*(16*m)=16 ^ l.length*16*m:=by rw[Nat.mul_assoc]
  rw[this];simp;omega
theorem vi (b:UInt8)(l:List UInt8):iX (b::l)=16 ^ l.length*dv b+iX l:=by
 have:=D4 l (16*0+dv b);unfold iX at this ⊢
 rw[List.foldl_cons,this];simp
theorem Ic:∀(f n:Nat) (acc:List UInt8),n<16 ^ (f+1)->iX (qO f n acc)=16 ^ acc.length*n+iX acc
 | 0,n,acc,hn=>by rw[qO,vi,(rJ n (by omega)).2]
 | f+1,n,acc,hn=>by
  rw[qO];split
  ·rw[vi,(rJ n (by omega)).2]
  rw[Ic f (n / 16) _ (Nat.div_lt_of_lt_mul (by rw[Nat.mul_comm,<-Nat.pow_succ];exact hn)),vi,(rJ (n % 16) (by omega)).2,List.length_cons,Nat.pow_succ];have h1:=Nat.div_add_mod n 16;have h2:16 ^ acc.length*n=16 ^ acc.length*16*(n / 16)+16 ^ acc.length*(n % 16):=by
   rw[Nat.mul_assoc,<-Nat.mul_add,h1]
  rw[h2];omega
theorem fp {n:Nat}(hn:n<4294967296):∀b∈gk n,mT b=true:=Ia 8 n [] (by omega) (λb h=>by cases h)
theorem j2 {n:Nat}(hn:n<4294967296):iX (gk n)=n:=by
 unfold gk;rw[Ic 8 n [] (by omega)];simp[iX]
theorem N4:∀(f n:Nat) (acc:List UInt8),qO f n acc≠[]
 | 0,n,acc=>by rw[qO];simp
 | f+1,n,acc=>by
  rw[qO];split
  ·simp
  exact N4 f _ _
theorem yk (n:Nat):gk n≠[]:=N4 8 n []
theorem D9 (l:List UInt8)(b:UInt8):iX (l++[b])=16*iX l+dv b:=by
 unfold iX;rw[List.foldl_append];rfl
theorem Da (l:List UInt8)(i:Nat):iX (l.take i)<=iX l:=by
 have e:=D4 (l.drop i) (iX (l.take i));have h0:iX l=16 ^ (l.drop i).length*iX (l.take i)+iX (l.drop i):=by
  rw[<-e]
  conv=>lhs;rw[<-List.take_append_drop i l]
  unfold iX;rw[List.foldl_append]
 have h1:1<=16 ^ (l.drop i).length:=Nat.pos_of_ne_zero (by simp);rw[h0];exact Nat.le_trans (Nat.le_mul_of_pos_left (iX (l.take i)) h1) (Nat.le_add_right _ _)
end Cae
namespace Go.Vc
open Go.RowKit
theorem aDG {L:VP}{other:Prop}(ty v ty' v' c)(p):cK 1 c .eql (.iface ty v) (.iface ty' v') L other p=other:=(rfl)
theorem aBr {L:VP}{other:Prop}(ty v ty' v' c)(p):cK 1 c .neq (.iface ty v) (.iface ty' v') L other p=other:=(rfl)
attribute [push_cast] aDG aBr
theorem lr {P:Program}{o:Oper}{t:Fr}{w:World}{K:VK}{Q:EP}{ty:TypeId}{x y:Operand}{z:TypeId}{te:TypeId}{k q:IntKind}{a b:Int}{ms:Array (String×TypeId)}(ho:o.op=.binOp .neq ty x y z)(hx:ev t x=.iface te (.int k a))(hy:ev t y=.iface te (.int k b))
  (ht:P.underlying ty=some (.interface ms)) (hc:(P.info? te).map (·.comparable)=some true) (he:P.underlying te=some (.int q)) (kk:K (.bool (!(a == b))) w):runK P o t w K Q .mk:=by
 refine fx (s:=do eqGuard .neq ty x y (ev t x) (ev t y);binOp .neq ty (ev t x) (ev t y)) (by unfold execOp;simp only[ho]) (eu (w':=w) ?_ kk);rw[Sem.run_bind,nf (.inl (by rw[hx];simp)) (by intro c;rw[hx];simp)]
 show (binOp .neq ty (ev t x) (ev t y)).run P w=_
 rw[hx,hy];exact Lib.run_neq_iface_int w a b ht hc he
end Go.Vc
namespace Go.Proofs.YtledlfbbebodgaaGreatDoor
open Go.Vc Go.Proofs Go.RowKit Cae
attribute [local irreducible] dd ae ak a7 runK bE Sl Vc.Own vc aU cJ a8
theorem aJZ:∀b:Nat,b<256->0<=eF .or .u8 (b:Int) 32/\eF .or .u8 (b:Int) 32<=255/\(97<=b->b<=102->eF .or .u8 (b:Int) 32=b)/\(b<48->eF .or .u8 (b:Int) 32<97)/\(b=95->eF .or .u8 (b:Int) 32=127):=by decide +kernel
theorem lZ (b:Int)(w:World):bE Tryz.prog 224 [.int .u8 b] w λr w'=>r=.int .u8 (eF .or .u8 b 32)/\w'=w:=by
 refine aE Tryz.func224 rfl (by kernel_rfl) [2] rfl ?_;push_cast -dsimp(maxSteps:=4000000) [Tryz.ntmps224]
def aHi (e:Value):Prop:=e=.nilIface\/e=.iface 288 (.int .i64 1)\/e=.iface 288 (.int .i64 2)
theorem qg (bits:Int)(kR:bits=32\/bits=40)(s:List UInt8)(hs:s.length<=1000000000)(w:World):bE Tryz.prog 214 [str s,.int .i64 16,.int .i64 bits] w λr w'=>(∃(v:Nat) (e:Value),r=.tuple #[.int .u64 (v:Int),e]/\v<1099511627776/\aHi e/\(∀n<4294967296,s=gk n->v=n/\e=.nilIface))/\Below w.heap.size w w':=by
 refine aE Tryz.func214 rfl (by kernel_rfl) [6,7] rfl ?_;push_cast -dsimp(maxSteps:=4000000) [Tryz.ntmps214];by_cases dD:s=[]
 ·subst dD;have e0:decide (([]:List UInt8)=[])=true:=rfl;simp -dsimp (maxSteps:=4000000) only[push_cast,Nat.reduceAdd,Nat.reduceLeDiff,Nat.reduceBEq,Int.reduceNe,Int.reduceEq,Int.reduceLT,Int.reduceLE,e0];refine⟨⟨0,_,rfl,by omega,.inr (.inr rfl),λn _ h=>absurd h.symm (yk n)⟩,Below.refl _ _⟩
 have ef:decide False=false:=rfl;have emx:∃mx:Nat,IntKind.u64.wrap (IntKind.u64.wrap (1*2 ^ min (IntKind.u64.wrap bits).toNat IntKind.u64.bits)-1)=(mx:Int)/\4294967295<=mx/\mx<1099511627776:=by
  rcases kR with rfl|rfl
  ·exact⟨4294967295,by decide,by omega,by omega⟩
  exact⟨1099511627775,by decide,by omega,by omega⟩
 obtain⟨mx,emx,aTp,aTq⟩:=emx;simp -dsimp (maxSteps:=4000000) only[push_cast,Nat.reduceAdd,Nat.reduceLeDiff,Nat.reduceBEq,Int.reduceNe,Int.reduceEq,Int.reduceLT,Int.reduceLE,ef];refine⟨λh=>absurd h dD,λ_=>⟨λh=>by omega,λ_=>⟨λ_=>⟨λh=>by omega,λ_=>⟨by rcases kR with rfl|rfl<;>decide,?_⟩⟩,λh=>by omega⟩⟩⟩;rw[emx];refine aDr (e:=5) (by kernel_rfl) (by kernel_rfl) (by kernel_rfl) ?_;intro cap w1 aMP nF gX;have sM:=gX.size;simp -dsimp (maxSteps:=4000000) only[push_cast,Nat.reduceAdd,Nat.reduceLeDiff,Nat.reduceBEq,Int.reduceNe,Int.reduceEq,Int.reduceLT,Int.reduceLE,ef];refine aL [6,7,12,13,15,16,17,101,102,103,104,105,106,107,108,109,110,111,112,113,114,115,116,117,118,119,120,121,122,123,124,125,126,127,128,129,130,131,132,133,134,135,136,137,138,139,140,141,142,143,144,145,146,147,148,149,150,151,152,153,154,155,156,157,158,159,160,161,162,163] (λz wx=>∃(i m:Nat),z 101=.int .i64 (i:Int)/\z 13=.int .u64 (m:Int)/\z 12=.bool false/\i<=s.length/\m<=mx/\((∀b∈s,mT b=true)->iX s<4294967296->m=iX (s.take i))/\Below w.heap.size w wx/\Byt wx w.heap.size 5 s) (λz _=>s.length-(intOf (z 101)).toNat) ?_ ?_
 ·exact⟨0,0,rfl,rfl,rfl,Nat.zero_le _,by omega,λ_ _=>rfl,gX,nF⟩
 intro z wx hI;obtain⟨i,m,aDQ,K9,HC,hi,hm,hv,bT,nu⟩:=hI;simp -dsimp (maxSteps:=4000000) only[push_cast,Nat.reduceAdd,Nat.reduceLeDiff,Nat.reduceBEq,Int.reduceNe,Int.reduceEq,Int.reduceLT,Int.reduceLE,aDQ,K9,HC,ef];refine⟨λaw=>?_,λfT=>?_⟩
 ·have hg:=au (l:=s) (i:=i) (by omega);obtain⟨x,hx,jQ,hxd,hxt⟩:=hg;have cx:=nu.cell hx;have jg:x.toNat<256:=x.toNat_lt;have sj:=aJZ x.toNat jg;have Cr:(∀b∈s,mT b=true)->mT x=true:=λh=>h x jQ;have Vs:dv x=if x.toNat<=57 then x.toNat-48 else x.toNat-87:=rfl
  have Ik:mT x=((decide (48<=x.toNat) && decide (x.toNat<=57)) || (decide (97<=x.toNat) && decide (x.toNat<=102))):=rfl;have yl:∃b,x.toNat=b:=⟨_,rfl⟩;obtain⟨b,hb⟩:=yl;rw[hb]at cx jg sj Vs Ik;have hgl:∃l,eF .or .u8 (b:Int) 32=l:=⟨_,rfl⟩;obtain⟨l,hl⟩:=hgl;rw[hl]at sj;have hgl:∃lo:Nat,l=(lo:Int):=⟨l.toNat,by omega⟩;obtain⟨lo,yn⟩:=hgl;subst yn;have rh:decide ((m:Int)>=1152921504606846976)=false:=decide_eq_false (by omega);have e16:IntKind.u8.wrap 16=16:=by decide
  have Zc:IntKind.u64.wrap 16=16:=by decide
  have hgk:∃k,16*m=k:=⟨_,rfl⟩;obtain⟨k,hk⟩:=hgk;have ek:IntKind.u64.wrap ((m:Int)*16)=(k:Int):=by
   rw[show (m:Int)*16=(k:Int) by omega,fS,Nat.mod_eq_of_lt (by omega)]
  refine⟨by omega,?_⟩;obtain⟨Kd,vn,mn,QZ,CT⟩:=sj;by_cases hA:48<=b/\b<=57
  ·have PH:decide ((b:Int)=95)=false:=decide_eq_false (by omega);have e1:decide (48<=(b:Int))=true:=decide_eq_true (by omega);have e2:decide ((b:Int)<=57)=true:=decide_eq_true (by omega);have hgd:∃dn:Nat,b-48=dn:=⟨_,rfl⟩;obtain⟨dn,aI5⟩:=hgd;have edn:IntKind.u8.wrap ((b:Int)-48)=(dn:Int):=by
    rw[show (b:Int)-48=(dn:Int) by omega,nV,Nat.mod_eq_of_lt (by omega)]
   have hdn:mT x=true->dn=dv x:=λ_=>by rw[Vs,if_pos hA.2];exact aI5.symm
   by_cases hd:dn<16
   ·have ed:decide ((dn:Int)>=16)=false:=decide_eq_false (by omega);have Ug:IntKind.u64.wrap (dn:Int)=(dn:Int):=by rw[fS,Nat.mod_eq_of_lt (by omega)]
    have Cq:∃q,k+dn=q:=⟨_,rfl⟩;obtain⟨q,hq⟩:=Cq;have eq:IntKind.u64.wrap ((k:Int)+(dn:Int))=(q:Int):=by
     rw[show (k:Int)+(dn:Int)=(q:Int) by omega,fS,Nat.mod_eq_of_lt (by omega)]
    have elt:decide ((q:Int)<(k:Int))=false:=decide_eq_false (by omega);have Nb:(∀b∈s,mT b=true)->iX s<4294967296->q=iX (s.take (i+1)):=λh1 h2=>by
     have:=hv h1 h2;have h3:=hdn (Cr h1);rw[hxt,D9,<-this,<-h3];omega
    by_cases hr:q<=mx
    ·have LU:decide ((q:Int)>(mx:Int))=false:=decide_eq_false (by omega);simp -dsimp (maxSteps:=4000000) only[push_cast,Nat.reduceAdd,Nat.reduceLeDiff,Nat.reduceBEq,Int.reduceNe,Int.reduceEq,Int.reduceLT,Int.reduceLE,cx,ed,rh,e16,Zc,ek,Ug,eq,elt,LU,ef,PH,e1,e2,edn];exact⟨⟨by omega,by omega⟩,⟨i+1,q,rfl,rfl,by omega,hr,Nb,bT,nu⟩,by rw[aDQ];simp only[intOf];omega⟩
    have LU:decide ((q:Int)>(mx:Int))=true:=decide_eq_true (by omega);simp -dsimp (maxSteps:=4000000) only[push_cast,Nat.reduceAdd,Nat.reduceLeDiff,Nat.reduceBEq,Int.reduceNe,Int.reduceEq,Int.reduceLT,Int.reduceLE,cx,ed,rh,e16,Zc,ek,Ug,eq,elt,LU,ef,PH,e1,e2,edn];refine⟨⟨mx,_,rfl,by omega,.inr (.inl rfl),λn hn h=>?_⟩,bT⟩;have h1:=Nb (by rw[h];exact fp hn) (by rw[h,j2 hn];exact hn);have h2:=Da s (i+1);have h3:=j2 hn;rw[<-h]at h3;omega
   have ed:decide ((dn:Int)>=16)=true:=decide_eq_true (by omega);simp -dsimp (maxSteps:=4000000) only[push_cast,Nat.reduceAdd,Nat.reduceLeDiff,Nat.reduceBEq,Int.reduceNe,Int.reduceEq,Int.reduceLT,Int.reduceLE,cx,ed,e16,ef,PH,e1,e2,edn];refine⟨⟨0,_,rfl,by omega,.inr (.inr rfl),λn hn h=>?_⟩,bT⟩;have h3:=hdn (Cr (by rw[h];exact fp hn));have h4:=Cr (by rw[h];exact fp hn);rw[Ik,Bool.or_eq_true,Bool.and_eq_true,Bool.and_eq_true,decide_eq_true_eq,decide_eq_true_eq,decide_eq_true_eq,decide_eq_true_eq]at h4;rw[Vs]at h3;split at h3<;>omega
  by_cases hB:97<=lo/\lo<=122
  ·have PH:decide ((b:Int)=95)=false:=decide_eq_false (λh=>by have:=CT (by omega);omega);have e1:decide (48<=(b:Int))=true:=decide_eq_true (Classical.byContradiction λh=>by have:=QZ (by omega);omega);have e2:decide ((b:Int)<=57)=false:=decide_eq_false (λh=>hA ⟨Classical.byContradiction λh=>by have:=QZ (by omega);omega,by omega⟩);have e3:decide (97<=(lo:Int))=true:=decide_eq_true (by omega);have e4:decide ((lo:Int)<=122)=true:=decide_eq_true (by omega);have hgd:∃dn:Nat,lo-87=dn:=⟨_,rfl⟩;obtain⟨dn,aI5⟩:=hgd;have aNi:∃l2:Nat,lo-97=l2:=⟨_,rfl⟩;obtain⟨l2,aTc⟩:=aNi;have edn:IntKind.u8.wrap ((lo:Int)-97)=(l2:Int):=by
    rw[show (lo:Int)-97=(l2:Int) by omega,nV,Nat.mod_eq_of_lt (by omega)]
   have aDE:IntKind.u8.wrap ((l2:Int)+10)=(dn:Int):=by
    rw[show (l2:Int)+10=(dn:Int) by omega,nV,Nat.mod_eq_of_lt (by omega)]
   have hdn:mT x=true->dn=dv x:=λh=>by
    rw[Ik,Bool.or_eq_true,Bool.and_eq_true,Bool.and_eq_true,decide_eq_true_eq,decide_eq_true_eq,decide_eq_true_eq,decide_eq_true_eq]at h;have h5:=mn (by omega) (by omega);rw[Vs,if_neg (by omega)];omega
   simp -dsimp (maxSteps:=4000000) only[push_cast,Nat.reduceAdd,Nat.reduceLeDiff,Nat.reduceBEq,Int.reduceNe,Int.reduceEq,Int.reduceLT,Int.reduceLE,cx,PH,e1,e2,ef];refine aA (lZ (b:Int) wx) ?_;rintro _ w2 ⟨rfl,rfl⟩;rw[hl];simp -dsimp (maxSteps:=4000000) only[push_cast,Nat.reduceAdd,Nat.reduceLeDiff,Nat.reduceBEq,Int.reduceNe,Int.reduceEq,Int.reduceLT,Int.reduceLE,e3,ef];refine aA (lZ (b:Int) w2) ?_;rintro _ w3 ⟨rfl,rfl⟩;rw[hl];simp -dsimp (maxSteps:=4000000) only[push_cast,Nat.reduceAdd,Nat.reduceLeDiff,Nat.reduceBEq,Int.reduceNe,Int.reduceEq,Int.reduceLT,Int.reduceLE,e4,ef];refine aA (lZ (b:Int) w3) ?_;rintro _ w4 ⟨rfl,rfl⟩;rw[hl];by_cases hd:dn<16
   ·have ed:decide ((dn:Int)>=16)=false:=decide_eq_false (by omega);have Ug:IntKind.u64.wrap (dn:Int)=(dn:Int):=by rw[fS,Nat.mod_eq_of_lt (by omega)]
    have Cq:∃q,k+dn=q:=⟨_,rfl⟩;obtain⟨q,hq⟩:=Cq;have eq:IntKind.u64.wrap ((k:Int)+(dn:Int))=(q:Int):=by
     rw[show (k:Int)+(dn:Int)=(q:Int) by omega,fS,Nat.mod_eq_of_lt (by omega)]
    have elt:decide ((q:Int)<(k:Int))=false:=decide_eq_false (by omega);have Nb:(∀b∈s,mT b=true)->iX s<4294967296->q=iX (s.take (i+1)):=λh1 h2=>by
     have:=hv h1 h2;have h3:=hdn (Cr h1);rw[hxt,D9,<-this,<-h3];omega
    by_cases hr:q<=mx
    ·have LU:decide ((q:Int)>(mx:Int))=false:=decide_eq_false (by omega);simp -dsimp (maxSteps:=4000000) only[push_cast,Nat.reduceAdd,Nat.reduceLeDiff,Nat.reduceBEq,Int.reduceNe,Int.reduceEq,Int.reduceLT,Int.reduceLE,cx,ed,rh,e16,Zc,ek,Ug,eq,elt,LU,ef,edn,aDE];exact⟨⟨by omega,by omega⟩,⟨i+1,q,rfl,rfl,by omega,hr,Nb,bT,nu⟩,by rw[aDQ];simp only[intOf];omega⟩
    have LU:decide ((q:Int)>(mx:Int))=true:=decide_eq_true (by omega);simp -dsimp (maxSteps:=4000000) only[push_cast,Nat.reduceAdd,Nat.reduceLeDiff,Nat.reduceBEq,Int.reduceNe,Int.reduceEq,Int.reduceLT,Int.reduceLE,cx,ed,rh,e16,Zc,ek,Ug,eq,elt,LU,ef,edn,aDE];refine⟨⟨mx,_,rfl,by omega,.inr (.inl rfl),λn hn h=>?_⟩,bT⟩;have h1:=Nb (by rw[h];exact fp hn) (by rw[h,j2 hn];exact hn);have h2:=Da s (i+1);have h3:=j2 hn;rw[<-h]at h3;omega
   have ed:decide ((dn:Int)>=16)=true:=decide_eq_true (by omega);simp -dsimp (maxSteps:=4000000) only[push_cast,Nat.reduceAdd,Nat.reduceLeDiff,Nat.reduceBEq,Int.reduceNe,Int.reduceEq,Int.reduceLT,Int.reduceLE,cx,ed,e16,ef,edn,aDE];refine⟨⟨0,_,rfl,by omega,.inr (.inr rfl),λn hn h=>?_⟩,bT⟩;have h3:=hdn (Cr (by rw[h];exact fp hn));have h4:=Cr (by rw[h];exact fp hn);rw[Ik,Bool.or_eq_true,Bool.and_eq_true,Bool.and_eq_true,decide_eq_true_eq,decide_eq_true_eq,decide_eq_true_eq,decide_eq_true_eq]at h4;rw[Vs]at h3;split at h3<;>omega
  by_cases h95:b=95
  ·have:=CT h95;have PH:decide ((b:Int)=95)=true:=decide_eq_true (by omega);have e1:decide (48<=(b:Int))=true:=decide_eq_true (by omega);have e2:decide ((b:Int)<=57)=false:=decide_eq_false (by omega);have e3:decide (97<=(lo:Int))=true:=decide_eq_true (by omega);have e4:decide ((lo:Int)<=122)=false:=decide_eq_false (by omega);simp -dsimp (maxSteps:=4000000) only[push_cast,Nat.reduceAdd,Nat.reduceLeDiff,Nat.reduceBEq,Int.reduceNe,Int.reduceEq,Int.reduceLT,Int.reduceLE,cx,PH,e1,e2,ef];refine aA (lZ (b:Int) wx) ?_;rintro _ w2 ⟨rfl,rfl⟩;rw[hl];simp -dsimp (maxSteps:=4000000) only[push_cast,Nat.reduceAdd,Nat.reduceLeDiff,Nat.reduceBEq,Int.reduceNe,Int.reduceEq,Int.reduceLT,Int.reduceLE,e3,ef];refine aA (lZ (b:Int) w2) ?_;rintro _ w3 ⟨rfl,rfl⟩;rw[hl];simp -dsimp (maxSteps:=4000000) only[push_cast,Nat.reduceAdd,Nat.reduceLeDiff,Nat.reduceBEq,Int.reduceNe,Int.reduceEq,Int.reduceLT,Int.reduceLE,e4,ef];refine⟨⟨0,_,rfl,by omega,.inr (.inr rfl),λn hn h=>?_⟩,bT⟩
   have:=Cr (by rw[h];exact fp hn);rw[Ik,Bool.or_eq_true,Bool.and_eq_true,Bool.and_eq_true,decide_eq_true_eq,decide_eq_true_eq,decide_eq_true_eq,decide_eq_true_eq]at this;omega
  rcases Nat.lt_or_ge b 48 with h48|h48
  ·have:=QZ h48;have PH:decide ((b:Int)=95)=false:=decide_eq_false (by omega);have e1:decide (48<=(b:Int))=false:=decide_eq_false (by omega);have e2:decide ((b:Int)<=57)=true:=decide_eq_true (by omega);have e3:decide (97<=(lo:Int))=false:=decide_eq_false (by omega);simp -dsimp (maxSteps:=4000000) only[push_cast,Nat.reduceAdd,Nat.reduceLeDiff,Nat.reduceBEq,Int.reduceNe,Int.reduceEq,Int.reduceLT,Int.reduceLE,cx,PH,e1,e2,ef];refine aA (lZ (b:Int) wx) ?_;rintro _ w2 ⟨rfl,rfl⟩;rw[hl];simp -dsimp (maxSteps:=4000000) only[push_cast,Nat.reduceAdd,Nat.reduceLeDiff,Nat.reduceBEq,Int.reduceNe,Int.reduceEq,Int.reduceLT,Int.reduceLE,e3,ef];refine⟨⟨0,_,rfl,by omega,.inr (.inr rfl),λn hn h=>?_⟩,bT⟩
   have:=Cr (by rw[h];exact fp hn);rw[Ik,Bool.or_eq_true,Bool.and_eq_true,Bool.and_eq_true,decide_eq_true_eq,decide_eq_true_eq,decide_eq_true_eq,decide_eq_true_eq]at this;omega
  rcases Nat.lt_or_ge lo 97 with h97|h97
  ·skip;have PH:decide ((b:Int)=95)=false:=decide_eq_false (by omega);have e1:decide (48<=(b:Int))=true:=decide_eq_true (by omega);have e2:decide ((b:Int)<=57)=false:=decide_eq_false (by omega);have e3:decide (97<=(lo:Int))=false:=decide_eq_false (by omega);simp -dsimp (maxSteps:=4000000) only[push_cast,Nat.reduceAdd,Nat.reduceLeDiff,Nat.reduceBEq,Int.reduceNe,Int.reduceEq,Int.reduceLT,Int.reduceLE,cx,PH,e1,e2,ef];refine aA (lZ (b:Int) wx) ?_;rintro _ w2 ⟨rfl,rfl⟩;rw[hl];simp -dsimp (maxSteps:=4000000) only[push_cast,Nat.reduceAdd,Nat.reduceLeDiff,Nat.reduceBEq,Int.reduceNe,Int.reduceEq,Int.reduceLT,Int.reduceLE,e3,ef];refine⟨⟨0,_,rfl,by omega,.inr (.inr rfl),λn hn h=>?_⟩,bT⟩
   have:=Cr (by rw[h];exact fp hn);rw[Ik,Bool.or_eq_true,Bool.and_eq_true,Bool.and_eq_true,decide_eq_true_eq,decide_eq_true_eq,decide_eq_true_eq,decide_eq_true_eq]at this;omega
  skip;have PH:decide ((b:Int)=95)=false:=decide_eq_false (by omega);have e1:decide (48<=(b:Int))=true:=decide_eq_true (by omega);have e2:decide ((b:Int)<=57)=false:=decide_eq_false (by omega);have e3:decide (97<=(lo:Int))=true:=decide_eq_true (by omega);have e4:decide ((lo:Int)<=122)=false:=decide_eq_false (by omega);simp -dsimp (maxSteps:=4000000) only[push_cast,Nat.reduceAdd,Nat.reduceLeDiff,Nat.reduceBEq,Int.reduceNe,Int.reduceEq,Int.reduceLT,Int.reduceLE,cx,PH,e1,e2,ef];refine aA (lZ (b:Int) wx) ?_;rintro _ w2 ⟨rfl,rfl⟩;rw[hl];simp -dsimp (maxSteps:=4000000) only[push_cast,Nat.reduceAdd,Nat.reduceLeDiff,Nat.reduceBEq,Int.reduceNe,Int.reduceEq,Int.reduceLT,Int.reduceLE,e3,ef];refine aA (lZ (b:Int) w2) ?_;rintro _ w3 ⟨rfl,rfl⟩;rw[hl];simp -dsimp (maxSteps:=4000000) only[push_cast,Nat.reduceAdd,Nat.reduceLeDiff,Nat.reduceBEq,Int.reduceNe,Int.reduceEq,Int.reduceLT,Int.reduceLE,e4,ef];refine⟨⟨0,_,rfl,by omega,.inr (.inr rfl),λn hn h=>?_⟩,bT⟩
  have:=Cr (by rw[h];exact fp hn);rw[Ik,Bool.or_eq_true,Bool.and_eq_true,Bool.and_eq_true,decide_eq_true_eq,decide_eq_true_eq,decide_eq_true_eq,decide_eq_true_eq]at this;omega
 refine⟨⟨m,_,rfl,by omega,.inl rfl,λn hn h=>⟨?_,rfl⟩⟩,bT⟩
 have:=hv (by rw[h];exact fp hn) (by rw[h,j2 hn];exact hn);rw[this,List.take_of_length_le (by omega),h,j2 hn]
end Go.Proofs.YtledlfbbebodgaaGreatDoor
end
section
namespace Cae
def dH (s:List UInt8)(l:List Rg):Prop:=aP (-2) l=true/\gW l=s
theorem Fq {n:Nat}(hn:n<4294967296){c:UInt8}(hc:mT c=false):(gk n).contains c=false:=by
 cases h:(gk n).contains c with
 | false=>rfl
 | true =>
  have hm:c∈gk n:=by simpa using h
  have:=fp hn c hm;rw[hc]at this;cases this
theorem ow (a b:List UInt8)(c:UInt8):(a++b).contains c=(a.contains c || b.contains c):=by
 induction a with
 | nil=>simp
 | cons x a ih=>rw[List.cons_append,List.contains_cons,List.contains_cons,ih,Bool.or_assoc]
theorem aF0 {r:Rg}(h0:0<=r.1)(h1:r.1<4294967296)(h2:r.2<4294967296):(rl r).contains 32=false:=by
 unfold rl;rw[ow,Fq (by omega) (by rfl)];split
 ·rw[List.contains_cons,Fq (by omega) (by rfl)];rfl
 rfl
theorem aFZ (r:Rg):rl r≠[]:=by
 unfold rl;intro h;exact yk _ (List.append_eq_nil_iff.1 h).1
theorem Bq {c:UInt8}:∀{a b:List UInt8},a.contains c=false->(a++c::b).takeWhile (· != c)=a/\(a++c::b).dropWhile (· != c)=c::b
 | [],b,_=>by simp
 | x::a,b,h=>by
  rw[List.contains_cons,Bool.or_eq_false_iff]at h;have h1:(x != c)=true:=by have:=h.1;simp at this;simp;exact λe=>this e.symm
  have ih:=Bq (b:=b) h.2;rw[List.cons_append,List.takeWhile_cons,List.dropWhile_cons,if_pos h1,if_pos h1,ih.1,ih.2];exact⟨rfl,rfl⟩
theorem YO {c:UInt8}{a:List UInt8}(h:a.contains c=false):splitB c a=[a]:=by
 rw[r5,h,Mu h];rfl
theorem SQ {c:UInt8}{a b:List UInt8}(h:a.contains c=false):splitB c (a++c::b)=a::splitB c b:=by
 rw[r5,(Bq h).1,(Bq h).2];have:(a++c::b).contains c=true:=by rw[ow];simp
 rw[if_pos this];rfl
theorem Bn {c:UInt8}:∀(x:List UInt8) (l:List (List UInt8)),(∀p∈x::l,p.contains c=false)->splitB c (Go.Lib.join (x::l) [c])=x::l
 | x,[],h=>by rw[Go.Lib.join_one];exact YO (h x (by simp))
 | x,y::l,h=>by
  have e:Go.Lib.join (x::y::l) [c]=x++c::Go.Lib.join (y::l) [c]:=by
   rw[Go.Lib.join_cons,Go.Lib.join_cons];simp[Go.Lib.joinTail]
  rw[e,SQ (h x (by simp)),Bn y l (λp hp=>h p (List.mem_cons_of_mem _ hp))]
theorem LR {r:Rg}(h0:0<=r.1)(h1:r.1<4294967296)(h2:r.2<4294967296)(aw:r.1<r.2):mH 45 (rl r)=(gk r.1.toNat,gk r.2.toNat,true):=by
 have hn:=Fq (n:=r.1.toNat) (c:=45) (by omega) (by rfl);have e:rl r=gk r.1.toNat++45::gk r.2.toNat:=by unfold rl;rw[if_pos aw]
 unfold mH;rw[e,(Bq hn).1,(Bq hn).2,ow];simp
theorem FD {r:Rg}(h0:0<=r.1)(h1:r.1<4294967296)(aw:¬r.1<r.2):mH 45 (rl r)=(gk r.1.toNat,[],false):=by
 have hn:=Fq (n:=r.1.toNat) (c:=45) (by omega) (by rfl);have e:rl r=gk r.1.toNat:=by unfold rl;rw[if_neg aw,List.append_nil]
 unfold mH;rw[e,hn];rfl
theorem rR:∀{s:List Rg} {a:Int},-2<=a->aP a s=true->∀r∈s,0<=r.1/\r.1<=r.2/\r.2<=1114111
 | [],_,_,_=>λr hr=>by cases hr
 | q::s,a,ha,h=>by
  rw[cC]at h;intro r hr;rcases List.mem_cons.1 hr with rfl|hr
  ·omega
  exact rR (by omega) h.2 r hr
def lM (l:List Rg):List UInt8:=Go.Lib.join (l.map rl) [32]
theorem vT {l:List Rg}(h:lM l=[]):l=[]:=by
 cases l with
 | nil=>rfl
 | cons r l =>
  unfold lM at h;rw[List.map_cons,Go.Lib.join_cons]at h;exact absurd (List.append_eq_nil_iff.1 h).1 (aFZ r)
theorem tN {l:List Rg}(h:aP (-2) l=true)(dD:lM l≠[]):splitB 32 (lM l)=l.map rl:=by
 cases l with
 | nil=>exact absurd rfl dD
 | cons r l =>
  unfold lM;rw[List.map_cons];refine Bn _ _ λp hp=>?_;rw[<-List.map_cons]at hp;obtain⟨q,hq,rfl⟩:=List.mem_map.1 hp
  have:=rR (by omega) h q hq;exact aF0 (by omega) (by omega) (by omega)
theorem rV {s:List UInt8}{l:List Rg}(h:dH s l):Go.Lib.hasPrefix s [91]=true/\Go.Lib.hasSuffix (Go.Lib.trimPrefix s [91]) [93]=true/\Go.Lib.trimSuffix (Go.Lib.trimPrefix s [91]) [93]=lM l:=by
 obtain⟨hr,rfl⟩:=h;have h1:Go.Lib.hasPrefix (gW l) [91]=true:=by simp[Go.Lib.hasPrefix,gW]
 have h2:Go.Lib.trimPrefix (gW l) [91]=lM l++[93]:=by
  unfold Go.Lib.trimPrefix;rw[h1];rfl
 have h3:Go.Lib.hasSuffix (lM l++[93]) [93]=true:=by
  unfold Go.Lib.hasSuffix;rw[List.isSuffixOf_iff_suffix];exact⟨lM l,rfl⟩
 rw[h2];refine⟨h1,h3,?_⟩;unfold Go.Lib.trimSuffix;rw[h3,if_pos rfl];simp
theorem xm {body x:List UInt8}{pre:List (List UInt8)}{l:List Rg}(h:aP (-2) l=true)(hb:body=lM l)(dD:body≠[])(hp:pre++[x] <+: splitB 32 body):∃r,l[pre.length]?=some r/\x=rl r/\0<=r.1/\r.1<=r.2/\r.2<=1114111:=by
 subst hb;rw[tN h dD]at hp;obtain⟨rest,hr⟩:=hp;have h1:(l.map rl)[pre.length]?=some x:=by rw[<-hr,List.append_assoc];simp
 rw[List.getElem?_map]at h1;cases hl:l[pre.length]? with
 | none=>rw[hl]at h1;cases h1
 | some r =>
  rw[hl]at h1;cases h1;exact⟨r,rfl,rfl,rR (by omega) h r (List.mem_of_getElem? hl)⟩
structure Tok where
 kind:Nat
 text:List UInt8
 pos:Nat
 deriving DecidableEq
inductive ao where
 | lit (pos:Nat) (s:List Rg)
 | ref (pos:Nat) (name:List UInt8)
 | not (pos:Nat) (l:ao)
 | bin (code:Nat) (pos:Nat) (l r:ao)
inductive aF where
 | one (k:ao)
 | any
 | fY
 | cat (l:List aF)
 | alt (l:List aF)
 | many (x:aF) (lo hi:Int)
structure cD where
 pos:Nat
 brk:Bool
 before:aF
 after:aF
structure fA where
 name:List UInt8
 pos:Nat
 kind:ao
structure dw where
 cQ:List fA
 rules:List cD
 els:Bool
def j4 (c:UInt8):Bool:=decide (97<=c.toNat) && decide (c.toNat<=122)
def eM (c:UInt8):Bool:=decide (48<=c.toNat) && decide (c.toNat<=57)
def JO:List UInt8:=[61,59,58,124,38,45,126,40,41,46,42,43,63,123,125,44,36]
def je (f:UInt8->Bool)(s:List UInt8):Nat:=(s.takeWhile f).length
def gY (s:List UInt8):Nat×Nat :=
 let c:=s.headD 0
 if j4 c then (1,je (λc=>j4 c || eM c) s)
 else if eM c then (2,je eM s)
 else if c=91 then (3,if s.contains 93 then je (· != 93) s+1 else 0)
 else if JO.contains c then (4,1)
 else (4,0)
def lg:Nat->Nat->List UInt8->List Tok->Except (Nat×Nat) (List Tok)
 | 0,i,s,acc=>.error (0,0)
 | n+1,i,[],acc=>.ok (acc++[⟨5,[],i⟩])
 | n+1,i,c::r,acc =>
  if c=32\/c=10 then lg n (i+1) r acc
  else if c=35 then lg n (i+je (· != 10) (c::r)) ((c::r).drop (je (· != 10) (c::r))) acc
  else if (gY (c::r)).2=0 then .error (3,i)
  else if acc.length=500 then .error (4,i)
  else lg n (i+(gY (c::r)).2) ((c::r).drop (gY (c::r)).2) (acc++[⟨(gY (c::r)).1,(c::r).take (gY (c::r)).2,i⟩])
def S0 (s:List UInt8):Except (Nat×Nat) (List Tok):=lg (s.length+1) 0 s []
def Gk (s:List UInt8):Option (List Rg) :=
 let body:=(s.drop 1).dropLast
 let l:List Rg:=if body=[] then [] else (splitB 32 body).map λp=>(((iX (mH 45 p).1:Nat):Int),if (mH 45 p).2.2 then ((iX (mH 45 p).2.1:Nat):Int) else ((iX (mH 45 p).1:Nat):Int))
 if aP (-2) l && gW l == s then some l else none
abbrev Pa (α:Type):=List Tok->Except (Nat×Nat) (α×List Tok)
def hd (l:List Tok):Tok:=l.headD ⟨5,[],0⟩
def pb {α β:Type}(p:Pa α)(q:α->Pa β):Pa β:=λl=>match p l with
 | .error e=>.error e
 | .ok (x,l')=>q x l'
def pr {α:Type}(x:α):Pa α:=λl=>.ok (x,l)
def dr {α:Type}(e:Nat):Pa α:=λl=>.error (e,(hd l).pos)
def ay {α:Type}(c:List Tok->Bool)(p q:Pa α):Pa α:=λl=>if c l then p l else q l
def dW:Pa Tok:=λl=>.ok (hd l,l)
def cM:Pa Unit:=λl=>match l with
 | []=>.error (0,0)
 | t::r=>if t.kind=5 then .error (0,0) else .ok ((),r)
def isKind (k:Nat)(l:List Tok):Bool:=(hd l).kind == k
def dT (s:List UInt8)(l:List Tok):Bool:=(hd l).kind != 5 && (hd l).text == s
def dB (s:List UInt8):Pa Unit:=ay (dT s) cM (dr 3)
def Ao (s:List UInt8):Bool:=s == [99,108,97,115,115] || s == [98,114,101,97,107] || s == [107,101,101,112] || s == [101,108,115,101]
def j5 (l:List Tok):Bool:=(hd l).kind == 1 && !Ao (hd l).text
def Dt (l:List Tok):Bool:=decide (10<(hd l).text.length)
def mX:Pa (List UInt8):=ay j5 (ay Dt (dr 4) (pb dW λt=>pb cM λ_=>pr t.text)) (dr 3)
def tj:Pa Nat:=ay (dT [124]) (pb cM λ_=>pr 3) (ay (dT [38]) (pb cM λ_=>pr 4) (ay (dT [45]) (pb cM λ_=>pr 5) (pr 0)))
def dM (one:Pa ao)(pos:Nat):Nat->ao->Pa ao
 | 0,k=>dr 0
 | n+1,k=>pb tj λc=>if c=0 then pr k else pb one λr=>dM one pos n (.bin c pos k r)
def sG (one:Pa ao):Pa ao:=pb dW λt=>pb one λk=>dM one t.pos 1000 k
def GP:Pa ao:=pb dW λt=>match Gk t.text with
 | none=>dr 3
 | some s=>pb cM λ_=>pr (.lit t.pos s)
def lH:Nat->Pa ao
 | 0=>dr 4
 | d+1=>ay (isKind 3) GP (ay (dT [126]) (pb dW λt=>pb cM λ_=>pb (lH d) λk=>pr (.not t.pos k))
  (ay (dT [40]) (pb cM λ_=>pb (sG (lH d)) λk=>pb (dB [41]) λ_=>pr k)
   (pb dW λt=>pb mX λn=>pr (.ref t.pos n))))
def qY (d:Nat):Pa ao:=sG (lH d)
def yD (s:List UInt8):Nat:=s.foldl (λm b=>10*m+(b.toNat-48)) 0
def j8:Pa Nat:=ay (isKind 2) (pb dW λt=>if 12<yD t.text then dr 4 else pb cM λ_=>pr (yD t.text)) (dr 3)
def dC:Pa (Int×Int):=pb j8 λlo=>ay (dT [44])
 (pb cM λ_=>ay (isKind 2)
  (pb j8 λhi=>if hi<lo then dr 2 else pb (dB [125]) λ_=>pr ((lo:Int),(hi:Int)))
  (pb (dB [125]) λ_=>pr ((lo:Int),-1)))
 (pb (dB [125]) λ_=>pr ((lo:Int),(lo:Int)))
def eK:Pa (Option (Int×Int)) :=
 ay (dT [42]) (pb cM λ_=>pr (some (0,-1)))
 (ay (dT [43]) (pb cM λ_=>pr (some (1,-1)))
 (ay (dT [63]) (pb cM λ_=>pr (some (0,1)))
 (ay (dT [123]) (pb cM λ_=>pb dC λr=>pr (some r)) (pr none))))
def bW (d:Nat):Nat->Nat->aF->Pa aF
 | 0,c,x=>dr 0
 | n+1,c,x=>pb eK λr=>match r with
  | none=>pr x
  | some q=>if d<=c+1 then dr 4 else bW d n (c+1) (.many x q.1 q.2)
def aV (d:Nat)(unit:Pa aF):Pa aF:=pb unit λx=>bW d 1000 0 x
def lJ (l:List Tok):Bool:=isKind 3 l || j5 l || dT [46] l || dT [36] l || dT [40] l
def bI (again:Pa aF):Nat->List aF->Pa (List aF)
 | 0,acc=>dr 0
 | n+1,acc=>ay lJ (pb again λx=>bI again n (acc++[x])) (pr acc)
def rowOf:List aF->aF
 | [x]=>x
 | l=>.cat l
def jT:List aF->aF
 | [x]=>x
 | l=>.alt l
def iR (again:Pa aF):Pa aF:=pb (bI again 1000 []) λps=>pr (rowOf ps)
def eV (row:Pa aF):Nat->List aF->Pa (List aF)
 | 0,acc=>dr 0
 | n+1,acc=>ay (dT [124]) (pb cM λ_=>pb row λx=>eV row n (acc++[x])) (pr acc)
def Kt (row:Pa aF):Pa aF:=pb row λx=>pb (eV row 1000 [x]) λps=>pr (jT ps)
def BQ (d:Nat)(unit:Pa aF):Pa aF:=if d=0 then dr 4 else Kt (iR (aV d unit))
def jH (l:List Tok):Bool:=isKind 3 l || j5 l
def aq:Nat->Pa aF
 | 0=>dr 4
 | d+1=>ay (dT [46]) (pb cM λ_=>pr .any)
  (ay (dT [36]) (pb cM λ_=>pr .fY)
  (ay (dT [40]) (pb cM λ_=>pb (BQ d (aq d)) λx=>pb (dB [41]) λ_=>pr x)
  (ay jH (pb (lH (d+1)) λk=>pr (.one k)) (dr 3))))
def qh (d:Nat):Pa aF:=BQ d (aq d)
def nZ:Pa fA:=pb dW λt=>pb (dB [99,108,97,115,115]) λ_=>pb mX λn=>pb (dB [61]) λ_=>pb (qY 9) λk=>pb (dB [59]) λ_=>pr ⟨n,t.pos,k⟩
def bS:Nat->List fA->Pa (List fA)
 | 0,acc=>dr 0
 | n+1,acc=>ay (dT [99,108,97,115,115]) (if acc.length=20 then dr 4 else pb nZ λc=>bS n (acc++[c])) (pr acc)
def gZ:Pa Bool:=ay (dT [98,114,101,97,107]) (pb cM λ_=>pr true) (pb (dB [107,101,101,112]) λ_=>pr false)
def lO:Pa cD:=pb dW λt=>pb gZ λb=>pb (qh 9) λx=>pb (dB [58]) λ_=>pb (qh 9) λy=>pb (dB [59]) λ_=>pr ⟨t.pos,b,x,y⟩
def iH (l:List Tok):Bool:=dT [98,114,101,97,107] l || dT [107,101,101,112] l
def bR:Nat->List cD->Pa (List cD)
 | 0,acc=>dr 0
 | n+1,acc=>ay iH (if acc.length=20 then dr 4 else pb lO λr=>bR n (acc++[r])) (pr acc)
def oD:Pa Bool:=ay (dT [101,108,115,101]) (pb cM λ_=>pb gZ λb=>pb (dB [59]) λ_=>pr b) (pr true)
def jB:Pa dw:=pb (bS 1000 []) λcs=>pb (bR 1000 []) λrs=>pb oD λb=>pr ⟨cs,rs,b⟩
def eO (s:List UInt8):Except (Nat×Nat) dw:=match S0 s with
 | .error e=>.error e
 | .ok l=>match jB l with
  | .error e=>.error e
  | .ok (f,l')=>if isKind 5 l' then .ok f else .error (3,(hd l').pos)
def e9:ao->Bool->List UInt8
 | .lit _ s,_=>gW s
 | .ref _ n,_=>n
 | .not _ l,_=>126::e9 l true
 | .bin c _ l r,alone =>
  let m:List UInt8:=if c=3 then [32,124,32] else if c=4 then [32,38,32] else [32,45,32]
  let s:=e9 l false++m++e9 r true
  if alone then 40::(s++[41]) else s
def PC (n:Nat):List UInt8:=if n<10 then [PF n] else if n<100 then [PF (n / 10),PF (n % 10)] else []
def wS (lo hi:Int):List UInt8 :=
 if lo=0/\hi<0 then [42] else if lo=1/\hi<0 then [43] else if lo=0/\hi=1 then [63]
 else if hi<0 then 123::(PC lo.toNat++[44,125])
 else if hi=lo then 123::(PC lo.toNat++[125])
 else 123::(PC lo.toNat++44::(PC hi.toNat++[125]))
def oK (b:Bool)(s:List UInt8):List UInt8:=if b then 40::(s++[41]) else s
mutual
def aW:aF->Nat->List UInt8
 | .one k,_=>e9 k true
 | .any,_=>[46]
 | .fY,_=>[36]
 | .cat l,least=>oK (decide (1<least)) (Go.Lib.join (ar l 2) [32])
 | .alt l,least=>oK (decide (0<least)) (Go.Lib.join (ar l 1) [32,124,32])
 | .many x lo hi,_=>aW x 2++wS lo hi
def ar:List aF->Nat->List (List UInt8)
 | [],_=>[]
 | x::l,least=>aW x least::ar l least
end
def vU (c:fA):List UInt8:=[99,108,97,115,115,32]++c.name++[32,61,32]++e9 c.kind false++[59,10]
def fw (r:cD):List UInt8 :=
 (if r.brk then [98,114,101,97,107,32] else [107,101,101,112,32])
  ++ (if aW r.before 0=[] then [] else aW r.before 0++[32])++[58]++(if aW r.after 0=[] then [] else 32::aW r.after 0)++[59,10]
def tx (b:Bool):List UInt8:=if b then [] else [101,108,115,101,32,107,101,101,112,59,10]
def mM (f:dw):List UInt8:=(f.cQ.flatMap vU)++(f.rules.flatMap fw)++tx f.els
def eJ (pts:List Int)(back:Bool)(i:Nat):Option (Nat×Int) :=
 if back then (if i=0 then none else (pts[i-1]?).map λp=>(i-1,p)) else (pts[i]?).map λp=>(i+1,p)
def iterM (R:Nat->Nat->Prop):Nat->Nat->Nat->Prop
 | 0,i,j=>i=j
 | n+1,i,j=>∃m,R i m/\iterM R n m j
section
variable (has:ao->Int->Prop) (pts:List Int) (back:Bool)
mutual
def dF:aF->Nat->Nat->Prop
 | .one k,i,j=>∃p,eJ pts back i=some (j,p)/\has k p
 | .any,i,j=>∃p,eJ pts back i=some (j,p)
 | .fY,i,j=>i=j/\eJ pts back i=none
 | .cat l,i,j=>if back then iq l i j else iS l i j
 | .alt l,i,j=>nW l i j
 | .many x lo hi,i,j=>∃n:Nat,lo<=n/\(hi<0\/(n:Int)<=hi)/\iterM (λa b=>dF x a b) n i j
def iS:List aF->Nat->Nat->Prop
 | [],i,j=>i=j
 | x::l,i,j=>∃m,dF x i m/\iS l m j
def iq:List aF->Nat->Nat->Prop
 | [],i,j=>i=j
 | x::l,i,j=>∃m,iq l i m/\dF x m j
def nW:List aF->Nat->Nat->Prop
 | [],_,_=>False
 | x::l,i,j=>dF x i j\/nW l i j
end
end
section
variable {has:ao->Int->Prop} {pts:List Int} {back:Bool}
theorem aBJ {l:List aF}{i j:Nat}:dF has pts back (.cat l) i j↔(if back then iq has pts back l i j else iS has pts back l i j):=by simp only[dF]
theorem uw {x:aF}{lo hi:Int}{i j:Nat}:dF has pts back (.many x lo hi) i j↔∃n:Nat,lo<=n/\(hi<0\/(n:Int)<=hi)/\iterM (dF has pts back x) n i j:=by simp only[dF]
theorem Je {l m:List aF}{i j:Nat}:iS has pts back (l++m) i j↔∃k,iS has pts back l i k/\iS has pts back m k j:=by
 induction l generalizing i with
 | nil=>simp[iS]
 | cons x l ih =>
  simp only[List.cons_append,iS];constructor
  ·rintro⟨a,h1,h2⟩;obtain⟨k,h3,h4⟩:=ih.1 h2;exact⟨k,⟨a,h1,h3⟩,h4⟩
  rintro⟨k,⟨a,h1,h3⟩,h4⟩;exact⟨a,h1,ih.2 ⟨k,h3,h4⟩⟩
theorem Xh {l m:List aF}{i j:Nat}:iq has pts back (l++m) i j↔∃k,iq has pts back m i k/\iq has pts back l k j:=by
 induction l generalizing j with
 | nil=>simp[iq]
 | cons x l ih =>
  simp only[List.cons_append,iq];constructor
  ·rintro⟨a,h1,h2⟩;obtain⟨k,h3,h4⟩:=ih.1 h1;exact⟨k,h3,a,h4,h2⟩
  rintro⟨k,h3,a,h4,h2⟩;exact⟨a,ih.2 ⟨k,h3,h4⟩,h2⟩
theorem Xg {l:List aF}{i j:Nat}:nW has pts back l i j↔∃x∈l,dF has pts back x i j:=by
 induction l with
 | nil=>simp[nW]
 | cons x l ih=>simp[nW,ih]
theorem jq {R:Nat->Nat->Prop}:∀{n i j:Nat},iterM R (n+1) i j↔∃m,iterM R n i m/\R m j
 | 0,i,j=>by simp[iterM]
 | n+1,i,j=>by
  constructor
  ·rintro⟨a,h1,h2⟩;obtain⟨b,h3,h4⟩:=jq.1 h2;exact⟨b,⟨a,h1,h3⟩,h4⟩
  rintro⟨b,⟨a,h1,h3⟩,h4⟩;exact⟨a,h1,jq.2 ⟨b,h3,h4⟩⟩
theorem tB {R S:Nat->Nat->Prop}(h:∀i j,R i j->S i j):∀{n i j:Nat},iterM R n i j->iterM S n i j
 | 0,_,_,e=>e
 | n+1,_,_,⟨m,h1,h2⟩=>⟨m,h _ _ h1,tB h h2⟩
theorem kW {i j:Nat}{p:Int}(h:eJ pts back i=some (j,p))(hi:i<=pts.length):j<=pts.length:=by
 unfold eJ at h;split at h
 ·split at h
  ·cases h
  cases hp:pts[i-1]? with
  | none=>rw[hp]at h;cases h
  | some q=>rw[hp]at h;cases h;omega
 cases hp:pts[i]? with
 | none=>rw[hp]at h;cases h
 | some q =>
  rw[hp]at h;cases h
  have:=(List.getElem?_eq_some_iff.1 hp).1;omega
theorem uZ {R:Nat->Nat->Prop}{N:Nat}(h:∀i j,i<=N->R i j->j<=N):∀{n i j:Nat},i<=N->iterM R n i j->j<=N
 | 0,_,_,hi,e=>by cases e;exact hi
 | n+1,_,_,hi,⟨m,h1,h2⟩=>uZ h (h _ _ hi h1) h2
mutual
theorem lI:∀(x:aF) {i j:Nat},i<=pts.length->dF has pts back x i j->j<=pts.length
 | .one k,i,j,hi,h=>by simp only[dF]at h;obtain⟨p,h,_⟩:=h;exact kW h hi
 | .any,i,j,hi,h=>by simp only[dF]at h;obtain⟨p,h⟩:=h;exact kW h hi
 | .fY,i,j,hi,h=>by simp only[dF]at h;omega
 | .cat l,i,j,hi,h=>by
  simp only[dF]at h;split at h
  ·exact uu l hi h
  exact yy l hi h
 | .alt l,i,j,hi,h=>by simp only[dF]at h;exact ON l hi h
 | .many x lo xM,i,j,hi,h=>by
  simp only[dF]at h;obtain⟨n,_,_,h⟩:=h;exact uZ (λa b ha hr=>lI x ha hr) hi h
theorem yy:∀(l:List aF) {i j:Nat},i<=pts.length->iS has pts back l i j->j<=pts.length
 | [],i,j,hi,h=>by simp only[iS]at h;omega
 | x::l,i,j,hi,h=>by simp only[iS]at h;obtain⟨m,h1,h2⟩:=h;exact yy l (lI x hi h1) h2
theorem uu:∀(l:List aF) {i j:Nat},i<=pts.length->iq has pts back l i j->j<=pts.length
 | [],i,j,hi,h=>by simp only[iq]at h;omega
 | x::l,i,j,hi,h=>by simp only[iq]at h;obtain⟨m,h1,h2⟩:=h;exact lI x (uu l hi h1) h2
theorem ON:∀(l:List aF) {i j:Nat},i<=pts.length->nW has pts back l i j->j<=pts.length
 | [],i,j,hi,h=>by simp only[nW]at h
 | x::l,i,j,hi,h=>by
  simp only[nW]at h;rcases h with h|h
  ·exact lI x hi h
  exact ON l hi h
end
end
mutual
def mV:aF->aF
 | .one k=>.one k
 | .any=>.any
 | .fY=>.fY
 | .cat l=>.cat (jF l).reverse
 | .alt l=>.alt (jF l)
 | .many x lo hi=>.many (mV x) lo hi
def jF:List aF->List aF
 | []=>[]
 | x::l=>mV x::jF l
end
section
variable {has:ao->Int->Prop} {pts:List Int} {back:Bool}
theorem vF {i j:Nat}{p:Int}(hi:i<=pts.length)(hj:j<=pts.length):eJ pts.reverse (!back) (pts.length-i)=some (pts.length-j,p)↔eJ pts back i=some (j,p):=by
 unfold eJ;cases back with
 | true =>
  simp only[Bool.not_true,Bool.false_eq_true,if_false,if_true];by_cases h0:i=0
  ·subst h0;rw[if_pos rfl,List.getElem?_eq_none (by simp)];simp
  rw[if_neg h0];have h1:pts.reverse[pts.length-i]?=pts[i-1]?:=by
   rw[List.getElem?_reverse (by omega)];congr 1;omega
  rw[h1];cases pts[i-1]? with
  | none=>simp
  | some q=>simp;intro _;omega
 | false =>
  simp only[Bool.not_false,Bool.false_eq_true,if_false,if_true];by_cases h0:i=pts.length
  ·subst h0;rw[if_pos (by omega),List.getElem?_eq_none (by omega)];simp
  rw[if_neg (by omega)];have h1:pts.reverse[pts.length-i-1]?=pts[i]?:=by
   rw[List.getElem?_reverse (by omega)];congr 1;omega
  rw[h1];cases pts[i]? with
  | none=>simp
  | some q=>simp;intro _;omega
theorem SR {i:Nat}(hi:i<=pts.length):eJ pts.reverse (!back) (pts.length-i)=none↔eJ pts back i=none:=by
 constructor
 ·intro h;cases h2:eJ pts back i with
  | none=>rfl
  | some q =>
   obtain⟨j,p⟩:=q
   have:=(vF hi (kW h2 hi)).2 h2;rw[h]at this;cases this
 intro h;cases h2:eJ pts.reverse (!back) (pts.length-i) with
 | none=>rfl
 | some q =>
  obtain⟨j,p⟩:=q;have hj:j<=pts.length:=by have:=kW h2 (by simp);simpa using this
  have e:j=pts.length-(pts.length-j):=by omega
  rw[e]at h2
  have:=(vF hi (by omega)).1 h2;rw[h]at this;cases this
theorem Ak {R S:Nat->Nat->Prop}{N:Nat}(hR:∀i j,i<=N->R i j->j<=N)(hS:∀i j,i<=N->S i j->j<=N)(h:∀i j,i<=N->j<=N->(S (N-i) (N-j)↔R i j)):∀{n i j:Nat},i<=N->j<=N->(iterM S n (N-i) (N-j)↔iterM R n i j)
 | 0,i,j,hi,hj=>by simp only[iterM];omega
 | n+1,i,j,hi,hj=>by
  constructor
  ·rintro⟨m,h1,h2⟩;have hm:m<=N:=hS _ _ (by omega) h1;have e:m=N-(N-m):=by omega
   rw[e]at h1 h2;exact⟨N-m,(h i (N-m) hi (by omega)).1 h1,(Ak hR hS h (by omega) hj).1 h2⟩
  rintro⟨m,h1,h2⟩;have hm:m<=N:=hR _ _ hi h1;exact⟨N-m,(h i m hi hm).2 h1,(Ak hR hS h hm hj).2 h2⟩
mutual
theorem rX:∀(back:Bool) (x:aF) {i j:Nat},i<=pts.length->j<=pts.length->(dF has pts.reverse (!back) (mV x) (pts.length-i) (pts.length-j)↔dF has pts back x i j)
 | back,.one k,i,j,hi,hj=>by
  simp only[mV,dF];exact exists_congr λp=>and_congr (vF hi hj) Iff.rfl
 | back,.any,i,j,hi,hj=>by
  simp only[mV,dF];exact exists_congr λp=>vF hi hj
 | back,.fY,i,j,hi,hj=>by
  simp only[mV,dF];exact and_congr (by omega) (SR hi)
 | back,.cat l,i,j,hi,hj=>by
  simp only[mV,dF];cases back with
  | true =>
   simp only[Bool.not_true,Bool.false_eq_true,if_false,if_true];exact BW l hi hj
  | false =>
   simp only[Bool.not_false,Bool.false_eq_true,if_false,if_true];exact BV l hi hj
 | back,.alt l,i,j,hi,hj=>by
  simp only[mV,dF];exact Jd back l hi hj
 | back,.many x lo xM,i,j,hi,hj=>by
  simp only[mV,dF];refine exists_congr λn=>and_congr Iff.rfl (and_congr Iff.rfl ?_);exact Ak (λa b ha hr=>lI x ha hr) (λa b ha hr=>by have:=lI (mV x) (pts:=pts.reverse) (by simpa using ha) hr;simpa using this) (λa b ha hb=>rX back x ha hb) hi hj
theorem BW:∀(l:List aF) {i j:Nat},i<=pts.length->j<=pts.length->(iS has pts.reverse (!true) (jF l).reverse (pts.length-i) (pts.length-j)↔iq has pts true l i j)
 | [],i,j,hi,hj=>by simp only[jF,List.reverse_nil,iS,iq];omega
 | x::l,i,j,hi,hj=>by
  simp only[jF,List.reverse_cons,iq];rw[Je];simp only[iS];constructor
  ·rintro⟨k,h1,m,h2,h3⟩;subst h3;have hk:k<=pts.length:=by have:=yy (pts:=pts.reverse) _ (by simp) h1;simpa using this
   have e:k=pts.length-(pts.length-k):=by omega
   rw[e]at h1 h2;exact⟨pts.length-k,(BW l hi (by omega)).1 h1,(rX true x (by omega) hj).1 h2⟩
  rintro⟨m,h1,h2⟩;have hm:m<=pts.length:=uu l hi h1;exact⟨pts.length-m,(BW l hi hm).2 h1,_,(rX true x hm hj).2 h2,rfl⟩
theorem BV:∀(l:List aF) {i j:Nat},i<=pts.length->j<=pts.length->(iq has pts.reverse (!false) (jF l).reverse (pts.length-i) (pts.length-j)↔iS has pts false l i j)
 | [],i,j,hi,hj=>by simp only[jF,List.reverse_nil,iS,iq];omega
 | x::l,i,j,hi,hj=>by
  simp only[jF,List.reverse_cons,iS];rw[Xh];simp only[iq];constructor
  ·rintro⟨k,⟨m,h3,h1⟩,h2⟩;subst h3;have hk:k<=pts.length:=by have:=lI (pts:=pts.reverse) _ (by simp) h1;simpa using this
   have e:k=pts.length-(pts.length-k):=by omega
   rw[e]at h1 h2;exact⟨pts.length-k,(rX false x hi (by omega)).1 h1,(BV l (by omega) hj).1 h2⟩
  rintro⟨m,h1,h2⟩;have hm:m<=pts.length:=lI x hi h1;exact⟨pts.length-m,⟨_,rfl,(rX false x hi hm).2 h1⟩,(BV l hm hj).2 h2⟩
theorem Jd:∀(back:Bool) (l:List aF) {i j:Nat},i<=pts.length->j<=pts.length->(nW has pts.reverse (!back) (jF l) (pts.length-i) (pts.length-j)↔nW has pts back l i j)
 | back,[],i,j,hi,hj=>by simp only[jF,nW]
 | back,x::l,i,j,hi,hj=>by
  simp only[jF,nW];exact or_congr (rX back x hi hj) (Jd back l hi hj)
end
end
end Cae
end
