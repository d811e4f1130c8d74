/- Texts of this claim, merged: Vo, Vw, So0, Hex, EncN, Join, Sprint, Cut, Byt, Pint, Ppar, Prul, Pmean, Pmean2. -/
import Derived.Test.YtemjejfpadnljaaGreatDoorM3
import Derived.Shelf.Strings.OnBuilder
import Derived.Shelf.Strings.Search3
import Derived.Shelf.Small.Wraps
import Derived.Lib.IfaceEq
import Derived.Lib.IfaceNeq
set_option maxRecDepth 100000
set_option linter.unusedSimpArgs false
set_option linter.unusedVariables false
set_option maxHeartbeats 8000000
section
namespace Go.Vc
open Go.RowKit
theorem aLB {L:VP}{other:Prop}(c:Bool)(n k n' k':Nat)(p):cF 3 c .eql (.slice none n k) (.slice none n' k') L other p=L (.bool true):=by cases c<;>rfl
theorem aHG {L:VP}{other:Prop}(c:Bool)(a:Addr)(n k n' k':Nat)(p):cF 3 c .eql (.slice (some a) n k) (.slice none n' k') L other p=L (.bool false):=by cases c<;>rfl
theorem qh {α β:Type}{w:World}{base NR k k':Nat}{e e':TypeId}{enc:α->List Value}{aLA:β->List Value}{v v':Value}{l:List α}{l':List β}(h:Vc.Own base e k enc w v l)(h':Vc.Own NR e' k' aLA w v' l')(cW:e≠e'):∀g,v.ownBlock=some g->v'.ownBlock≠some g:=λg hg Bz=>by
 rcases h.1.2 with ⟨he,_⟩|⟨g1,cap,cur,he,_,h1,_⟩
 ·rw[he]at hg;cases hg
 rcases h'.1.2 with ⟨Nd,_⟩|⟨g2,aRy,PU,Nd,_,h2,_⟩
 ·rw[Nd]at Bz;cases Bz
 rw[he]at hg;rw[Nd]at Bz;have e1:g1=g:=by simpa[Value.ownBlock] using hg
 have e2:g2=g:=by simpa[Value.ownBlock] using Bz
 subst e1 e2;rw[h1]at h2;cases h2;exact cW rfl
theorem aKe {α:Type}{f:α->Value}{w:World}{b c n:Nat}{e:TypeId}{l:List α}(hB:aL w b e (l.map f))(hn:n=l.length)(hc:l.length<=c):Sl (λ_=>False) 1 (En (λx=>[f x])) w (.slice (some ⟨b,0,none⟩) n c) l:=by
 subst hn;refine⟨_,_,rfl,hc,λi x hx=>⟨b,0,[f x],rfl,id,rfl,λj u hu=>?_,rfl⟩⟩;cases j with
 | zero =>
  simp at hu;subst hu;rw[Nat.mul_one,Nat.add_zero,Nat.zero_add];exact hB.cell (by rw[List.getElem?_map,hx];rfl)
 | succ j=>simp at hu
theorem EW {α:Type}[DecidableEq α][BEq α][LawfulBEq α](a b:α):(a == b)=decide (a=b):=by
 by_cases h:a=b
 ·subst h;simp
 rw[decide_eq_false h];exact beq_eq_false_iff_ne.2 h
theorem NS (a b:List UInt8):((⟨a.toArray⟩:ByteArray) == ⟨b.toArray⟩)=decide (a=b):=by
 show (a.toArray == b.toArray)=_
 rw[List.beq_toArray];exact EW a b
section
set_option linter.unusedSectionVars false
variable {P:Program} {α:Type} [DecidableEq α]
structure tW (P:Program)(kt:TypeId)(key:α->Value):Prop where
 und:∃d,P.underlying kt=some d/\∀a b,Instr.sameNow d (key a) (key b)=some (decide (a=b))
 bits:∀n a,Instr.sameBits n (key a) (key a)=true
 check:∀em n a w,(Instr.checkKey em (n+1) kt (key a)).run P w=.ok () w
theorem ME {kt:TypeId}(hk:P.underlying kt=some (.int .i64)):tW P kt (λn:Nat=>Value.int .i64 (n:Int)) where
 und:=⟨_,hk,λa b=>by simp only[Instr.sameNow,if_true,Option.some.injEq];rw[EW,decide_eq_decide];exact Int.ofNat_inj⟩
 bits:=λn a=>by cases n<;>simp[Instr.sameBits]
 check:=λem n a w=>by simp[Instr.checkKey,run_underlying hk]
theorem nX {kt:TypeId}(hk:P.underlying kt=some .string):tW P kt (λl:List UInt8=>str l) where
 und:=⟨_,hk,λa b=>by
  simp only[str,Instr.sameNow,Option.some.injEq];exact NS a b⟩
 bits:=λn a=>by have:=(NS a a).trans (decide_eq_true rfl);cases n<;>simpa[str,Instr.sameBits] using this
 check:=λem n a w=>by simp[str,Instr.checkKey,run_underlying hk]
def mf (key:α->Value)(w:World)(b:Nat)(gZ:List (α×Value)):Prop :=
 ∃(es:Array MapEntry) (clock:Nat),w.heap[b]?=some (.map es clock)/\(es.toList.map λe=>(e.key,e.val))=gZ.map λp=>(key p.1,p.2)
def eA (k:α):List (α×Value)->Option Value
 | []=>none
 | p::r=>if k=p.1 then some p.2 else eA k r
def DA (k:α)(v:Value):List (α×Value)->List (α×Value)
 | []=>[(k,v)]
 | p::r=>if k=p.1 then (p.1,v)::r else p::DA k v r
variable {key:α->Value}
theorem mf.kept {X:Nat->Prop}{w w':World}{b:Nat}{gZ:List (α×Value)}(h:mf key w b gZ)(hk:Kept X w w')(hX:¬X b):mf key w' b gZ:=by
 obtain⟨es,clock,h1,h2⟩:=h;exact⟨es,clock,(hk.block b (Array.getElem?_eq_some_iff.1 h1).1 hX).trans h1,h2⟩
theorem mf.lt {w:World}{b:Nat}{gZ:List (α×Value)}(h:mf key w b gZ):b<w.heap.size:=by
 obtain⟨es,clock,h1,h2⟩:=h;exact(Array.getElem?_eq_some_iff.1 h1).1
theorem mf.below {B:Nat}{w w':World}{b:Nat}{gZ:List (α×Value)}(h:mf key w b gZ)(hk:Below B w w')(hX:b<B):mf key w' b gZ:=by
 obtain⟨es,clock,h1,h2⟩:=h;exact⟨es,clock,(hk.block b hX).trans h1,h2⟩
theorem vY {d:TypeDesc}(hd:∀a b,Instr.sameNow d (key a) (key b)=some (decide (a=b)))(k:α):∀(es:List MapEntry) (gZ:List (α×Value)) (i:Nat),(es.map λe=>(e.key,e.val))=(gZ.map λp=>(key p.1,p.2)) ->
  ∃r,Instr.findNow d (key k) es i=some r/\((∃j e u,r=some (j,u)/\i<=j/\es[j-i]?=some e/\e.key=key k/\eA k gZ=some u/\∀v,(es.modify (j-i) (λe=>{ e with key:=key k,val:=v })).map (λe=>(e.key,e.val))=(DA k v gZ).map λp=>(key p.1,p.2)) \/
   (r=none/\eA k gZ=none/\∀v,DA k v gZ=gZ++[(k,v)]))
 | [],[],i,_=>⟨none,rfl,.inr ⟨rfl,rfl,λ_=>rfl⟩⟩
 | [],_::_,_,h=>by simp at h
 | _::_,[],_,h=>by simp at h
 | e::es,p::gZ,i,h=>by
  simp only[List.map_cons,List.cons.injEq,Prod.mk.injEq]at h;obtain⟨⟨h1,h2⟩,h3⟩:=h;rw[Instr.findNow,h1,hd];by_cases hx:k=p.1
  ·rw[decide_eq_true hx];refine⟨some (i,e.val),rfl,.inl ⟨i,e,e.val,rfl,Nat.le_refl _,by simp,by rw[h1,hx],by rw[eA,if_pos hx,h2],λv=>?_⟩⟩;rw[Nat.sub_self,DA,if_pos hx];simp[h3,hx]
  rw[decide_eq_false hx];obtain⟨r,hr,hh⟩:=vY hd k es gZ (i+1) h3;refine⟨r,hr,?_⟩;rcases hh with ⟨j,e',u,h4,h5,h6,h7,h8,h9⟩|⟨h4,h5,h6⟩
  ·refine .inl ⟨j,e',u,h4,by omega,?_,h7,by rw[eA,if_neg hx,h8],λv=>?_⟩
   ·rw[show j-i=(j-(i+1))+1 by omega]
    simpa using h6
   rw[show j-i=(j-(i+1))+1 by omega,DA,if_neg hx]
   simp only[List.modify_succ_cons,List.map_cons,h1,h2];rw[h9 v]
  exact .inr ⟨h4,by rw[eA,if_neg hx,h5],λv=>by rw[DA,if_neg hx,h6 v];rfl⟩
theorem JF {mt kt et:TypeId}{w:World}{b:Nat}{gZ:List (α×Value)}{z:Value}(hm:P.underlying mt=some (.map kt et))(hk:tW P kt key)(hz:(P.info? et).bind (·.zero)=some z)(h:mf key w b gZ)(k:α)(c:Bool) :
  (Instr.lookup mt (.map (some b)) (key k) c).run P w=.ok (if c then .tuple #[(eA k gZ).getD z,.bool (eA k gZ).isSome] else (eA k gZ).getD z) w:=by
 obtain⟨es,clock,h1,h2⟩:=h;obtain⟨i,hi,hz⟩:=Option.bind_eq_some_iff.1 hz;obtain⟨d,hd,hs⟩:=hk.und;obtain⟨r,hr,hh⟩:=vY hs k es.toList gZ 0 h2;have hck:(Instr.checkKey es.isEmpty 10000 kt (key k)).run P w=.ok () w:=hk.check _ 9999 k w;have hfk:(Instr.findKey kt (key k) es.toList).run P w=.ok r w:=by simp[Instr.findKey,run_underlying hd,hr]
 have K8:(getObj b).run P w=.ok (.map es clock) w:=by simp[getObj,Sem.run,h1]
 rcases hh with ⟨j,e,u,rfl,_,_,_,ha,_⟩|⟨rfl,ha,_⟩
 ·simp[Instr.lookup,run_underlying hm,K8,hck,hfk,ha]
 simp[Instr.lookup,run_underlying hm,K8,hck,hfk,ha,zeroValue,typeInfo,hi,hz]
theorem KO {mt kt et:TypeId}{w:World}{b:Nat}{gZ:List (α×Value)}(hm:P.underlying mt=some (.map kt et))(hk:tW P kt key)(h:mf key w b gZ)(k:α)(v:Value) :
  ∃w',(Instr.mapUpdate mt (.map (some b)) (key k) v).run P w=.ok () w'/\mf key w' b (DA k v gZ)/\Kept (·=b) w w'/\w'.heap.size=w.heap.size:=by
 obtain⟨es,clock,h1,h2⟩:=h;have aj:=(Array.getElem?_eq_some_iff.1 h1).1;obtain⟨d,hd,hs⟩:=hk.und;obtain⟨r,hr,hh⟩:=vY hs k es.toList gZ 0 h2;have hck:(Instr.checkKey false 10000 kt (key k)).run P w=.ok () w:=hk.check _ 9999 k w;have hfk:(Instr.findKey kt (key k) es.toList).run P w=.ok r w:=by simp[Instr.findKey,run_underlying hd,hr]
 have K8:(getObj b).run P w=.ok (.map es clock) w:=by simp[getObj,Sem.run,h1]
 have sk:∀o,(setObj b o).run P w=.ok () { w with heap:=w.heap.setIfInBounds b o }:=λo=>by simp[setObj,Sem.run,h1]
 have Nl:∀o,Kept (·=b) w { w with heap:=w.heap.setIfInBounds b o }:=λo=>⟨rfl,rfl,rfl,by simp,λi hi cW=>by simp[Array.getElem?_setIfInBounds,Ne.symm cW]⟩;rcases hh with ⟨j,e,u,rfl,_,he,hek,ha,hp⟩|⟨rfl,ha,hp⟩
 ·have aM4:es[j]?=some e:=by simpa using he
  have aNu:(Instr.keyThatStays e.key (key k)).run P w=.ok (key k) w:=by
   have:Instr.sameBits 10000 e.key (key k)=true:=by rw[hek];exact hk.bits 10000 k
   simp only[Instr.keyThatStays,this,if_true];rfl
  refine⟨{ w with heap:=w.heap.setIfInBounds b (.map (es.modify j λe=>{ e with key:=key k,val:=v }) clock) },?_,⟨es.modify j λe=>{ e with key:=key k,val:=v },clock,?_,?_⟩,Nl _,by simp⟩
  ·simp[Instr.mapUpdate,run_underlying hm,K8,hck,hfk,aM4,aNu,sk]
  ·simp[aj]
  rw[<-hp v,Nat.sub_zero,Array.toList_modify]
 refine⟨{ w with heap:=w.heap.setIfInBounds b (.map (es.push { key:=key k,val:=v,born:=clock }) (clock+1)) },?_,⟨es.push { key:=key k,val:=v,born:=clock },clock+1,?_,?_⟩,Nl _,by simp⟩
 ·simp[Instr.mapUpdate,run_underlying hm,K8,hck,hfk,sk]
 ·simp[aj]
 rw[hp v];simp[h2]
theorem GU {mt kt et:TypeId}{w:World}{b:Nat}{gZ:List (α×Value)}{z:Value}{t:Fr}{K:VK}{Q:EP}{p}{c:Bool}{k:α}(hm:P.underlying mt=some (.map kt et))(hk:tW P kt key)(hz:(P.info? et).bind (·.zero)=some z)(h:mf key w b gZ)
  (kk:K (if c then .tuple #[(eA k gZ).getD z,.bool (eA k gZ).isSome] else (eA k gZ).getD z) w):ag P (Instr.lookup mt (.map (some b)) (key k) c) t w K Q p:=ff (JF hm hk hz h k c) kk
theorem aCh {mt kt et:TypeId}{w:World}{b:Nat}{gZ:List (α×Value)}{t:Fr}{K:VK}{Q:EP}{k:α}{v:Value}(hm:P.underlying mt=some (.map kt et))(hk:tW P kt key)(h:mf key w b gZ)
  (kk:∀w',mf key w' b (DA k v gZ)->Kept (·=b) w w'->w'.heap.size=w.heap.size->K undef w'):aX P (Instr.mapUpdate mt (.map (some b)) (key k) v) t w K Q .mk:=by
 obtain⟨w',hr,h1,h2,h3⟩:=KO hm hk h k v;exact B7 hr (kk w' h1 h2 h3)
theorem oz {mt kt et:TypeId}{w:World}{b:Nat}{gZ:List (α×Value)}{z kv u:Value}{t:Fr}{K:VK}{Q:EP}{p}{k:α}(hm:P.underlying mt=some (.map kt et))(hk:tW P kt key)(hz:(P.info? et).bind (·.zero)=some z)(h:mf key w b gZ)(AD:kv=key k)(ha:eA k gZ=some u)
  (kk:K (.tuple #[u,.bool true]) w):ag P (Instr.lookup mt (.map (some b)) kv true) t w K Q p:=by
 subst AD;refine GU hm hk hz h ?_;rw[ha];exact kk
theorem oy {mt kt et:TypeId}{w:World}{b:Nat}{gZ:List (α×Value)}{z kv:Value}{t:Fr}{K:VK}{Q:EP}{p}{k:α}(hm:P.underlying mt=some (.map kt et))(hk:tW P kt key)(hz:(P.info? et).bind (·.zero)=some z)(h:mf key w b gZ)(AD:kv=key k)(ha:eA k gZ=none)
  (kk:K (.tuple #[z,.bool false]) w):ag P (Instr.lookup mt (.map (some b)) kv true) t w K Q p:=by
 subst AD;refine GU hm hk hz h ?_;rw[ha];exact kk
theorem Dp {k:α}{v:Value}:∀{gZ:List (α×Value)},eA k gZ=none->DA k v gZ=gZ++[(k,v)]
 | [],_=>rfl
 | p::r,h=>by
  rw[eA]at h;split at h
  ·cases h
  rename_i cW;rw[DA,if_neg cW,Dp h];rfl
theorem jG {mt kt et:TypeId}{w:World}{b:Nat}{gZ:List (α×Value)}{t:Fr}{K:VK}{Q:EP}{k:α}{v kv:Value}(hm:P.underlying mt=some (.map kt et))(hk:tW P kt key)(h:mf key w b gZ)(AD:kv=key k)(ha:eA k gZ=none)
  (kk:∀w',mf key w' b (gZ++[(k,v)])->Kept (·=b) w w'->w'.heap.size=w.heap.size->K undef w'):aX P (Instr.mapUpdate mt (.map (some b)) kv v) t w K Q .mk:=by
 subst AD;refine aCh hm hk h ?_;rw[Dp ha];exact kk
theorem A6 {mt:TypeId}{w:World}{t:Fr}{K:VK}{Q:EP}{p}{key:α->Value}(kk:∀w',mf key w' w.heap.size []->Below w.heap.size w w'->w'.heap.size=w.heap.size+1->K (.map (some w.heap.size)) w'):ag P (Instr.makeMap mt none) t w K Q p :=
 ff (w':=w.alloc (.map #[] 0)) (v:=.map (some w.heap.size)) rfl (kk _ ⟨#[],0,heap_alloc_new w _,rfl⟩ ((Below.refl _ _).alloc (Nat.le_refl _) _) (by simp))
end
end Go.Vc
end
section
namespace Go.Vc
open Go.RowKit
def nS (C D:World->Prop)(m:Nat)(listed:Array Bool):World->Prop:=λw=>(listed.getD m false=true->D w)/\(listed.getD m false=false->C w)
section
variable {P:Program} {ops:Array Oper} {C D:World->Prop}
theorem mv {m:Nat}{listed:Array Bool}(h:listed.getD m false=true):nS C D m listed=D:=funext λw=>propext ⟨λhh=>hh.1 h,λhh=>⟨λ_=>hh,λh'=>by rw[h]at h';cases h'⟩⟩
theorem mu {m:Nat}{listed:Array Bool}(h:listed.getD m false=false):nS C D m listed=C:=funext λw=>propext ⟨λhh=>hh.2 h,λhh=>⟨λh'=>(by rw[h]at h';cases h'),λ_=>hh⟩⟩
theorem tm (sY:∀w,C w->D w){m:Nat}{listed:Array Bool}{w:World}(h:nS C D m listed w):D w:=by
 cases hm:listed.getD m false with
 | true=>exact h.1 hm
 | false=>exact sY w (h.2 hm)
theorem vT (sY:∀w,C w->D w){m i:Nat}{listed:Array Bool}{w:World}(h:nS C D m listed w):nS C D m (listed.setIfInBounds i true) w:=by
 cases hm:(listed.setIfInBounds i true).getD m false with
 | true=>rw[mv hm];exact tm sY h
 | false =>
  rw[mu hm];refine h.2 ?_;cases hl:listed.getD m false with
  | false=>rfl
  | true=>rw[getD_set_true hl]at hm;cases hm
theorem Rf {i:Nat}{o:Oper}{K:Act->World->Prop}{a:Act}{w:World}(hi:ops[i]?=some o)(hq:chain P o=false)(sY:∀w,C w->D w)(h:bA P ops D i K a w):bA P ops C i K a w:=by
 cases hw:Region.wanted o (yielded ops a.tmps) with
 | false=>rw[cX hi hw]at h ⊢;exact h
 | true =>
  rw[bK hi hw hq]at h ⊢
  obtain⟨v,hv,hk⟩:=h;exact⟨v,λw' tU=>hv w' (sY w' tU),hk⟩
theorem JN {i:Nat}{o:Oper}{K K':Act->World->Prop}{a:Act}{w:World}(hi:ops[i]?=some o)(hq:chain P o=false)(hk:∀a,K a w->K' a w)(h:bA P ops D i K a w):bA P ops D i K' a w:=by
 cases hw:Region.wanted o (yielded ops a.tmps) with
 | false=>rw[cX hi hw]at h ⊢;exact hk _ h
 | true =>
  rw[bK hi hw hq]at h ⊢
  obtain⟨v,hv,hh⟩:=h;exact⟨v,hv,hk _ hh⟩
theorem JQ {i j:Nat}{oi oj:Oper}{K:Act->World->Prop}{a:Act}{w:World}(sY:∀w,C w->D w)(hi:ops[i]?=some oi)(hj:ops[j]?=some oj)(sZ:oi.apart ops oj=true)(CZ:chain P oi=false)
  (hsi:∀cs b,oi.op≠.select cs b) (hsj:∀cs b,oj.op≠.select cs b) (h:bA P ops D i (bA P ops C j K) a w):bA P ops C j (bA P ops D i K) a w:=by
 obtain⟨h1,h2,h3⟩:=Oper.apart_spec sZ;have ej:∀(b:Act) (v:Value),execOp (b.put oi.dst v).eval oj=execOp b.eval oj:=λb v=>execOp_put oj hsj b oi.dst v h1;have ei:∀(b:Act) (v:Value),execOp (b.put oj.dst v).eval oi=execOp b.eval oi:=λb v=>execOp_put oi hsi b oj.dst v h3;have wj:∀(b:Act) (v:Value),Region.wanted oj (yielded ops (b.put oi.dst v).tmps)=Region.wanted oj (yielded ops b.tmps):=λb v=>wanted_put oj b oi.dst v h1;have wi:∀(b:Act) (v:Value),Region.wanted oi (yielded ops (b.put oj.dst v).tmps)=Region.wanted oi (yielded ops b.tmps):=λb v=>wanted_put oi b oj.dst v h3;have cm:∀(b:Act) (v u:Value),(b.put oi.dst v).put oj.dst u=(b.put oj.dst u).put oi.dst v:=λb v u=>Act.put_comm b v u h2;cases gS:Region.wanted oi (yielded ops a.tmps) with
 | false =>
  rw[cX hi gS]at h;cases fc:Region.wanted oj (yielded ops a.tmps) with
  | false =>
   rw[cX hj (by rw[wj];exact fc)]at h;rw[cX hj fc,cX hi (by rw[wi];exact gS),<-cm];exact h
  | true =>
   cases qL:chain P oj with
   | true =>
    rw[eC hj (by rw[wj];exact fc) qL,ej]at h;rw[eC hj fc qL];refine ji (λv w' _ hh=>?_) h;rw[cX hi (by rw[wi];exact gS),<-cm];exact hh
   | false =>
    rw[bK hj (by rw[wj];exact fc) qL,ej]at h;rw[bK hj fc qL];obtain⟨v,hv,hk⟩:=h;refine⟨v,hv,?_⟩;rw[cX hi (by rw[wi];exact gS),<-cm];exact hk
 | true =>
  rw[bK hi gS CZ]at h;obtain⟨v,hv,hk⟩:=h;cases fc:Region.wanted oj (yielded ops a.tmps) with
  | false =>
   rw[cX hj (by rw[wj];exact fc)]at hk;rw[cX hj fc,bK hi (by rw[wi];exact gS) CZ,ei];exact⟨v,hv,by rw[<-cm];exact hk⟩
  | true =>
   cases qL:chain P oj with
   | true =>
    rw[eC hj (by rw[wj];exact fc) qL,ej]at hk;rw[eC hj fc qL];refine ji (λu w' _ hh=>?_) hk;rw[bK hi (by rw[wi];exact gS) CZ,ei];exact⟨v,hv,by rw[<-cm];exact hh⟩
   | false =>
    rw[bK hj (by rw[wj];exact fc) qL,ej]at hk;rw[bK hj fc qL];obtain⟨u,hu,hk⟩:=hk;refine⟨u,hu,?_⟩;rw[bK hi (by rw[wi];exact gS) CZ,ei];exact⟨v,hv,by rw[<-cm];exact hk⟩
def pQ (P:Program)(ops:Array Oper)(C D:World->Prop)(m:Nat)(R:Act->World->Prop):Nat->Array Bool->Act->World->Prop
 | 0,listed,a,w=>Region.ready .any ops listed=[]/\R a w
 | n+1,listed,a,w=>(Region.ready .any ops listed=[]->R a w)/\∀i∈Region.ready .any ops listed,bA P ops (nS C D m (listed.setIfInBounds i true)) i (pQ P ops C D m R n (listed.setIfInBounds i true)) a w
theorem ij (sY:∀w,C w->D w){m:Nat}{R:Act->World->Prop}{Q:Exit->Act->World->Prop}(hq:∀a w,R a w->Q .normal a w):∀(n:Nat) (listed:Array Bool) (a:Act) (w:World),nS C D m listed w ->
  pQ P ops C D m R n listed a w->wpAny P .any ops Q n listed a w
 | 0,listed,a,w,_,h=>⟨h.1,hq _ _ h.2⟩
 | fuel+1,listed,a,w,hC,h=>⟨λh0=>hq _ _ (h.1 h0),λi hi=>by
   have h1:=h.2 i hi;have sX:=vT sY (i:=i) hC;unfold bA at h1;unfold wpOp;split
   ·rename_i ho;simp only[ho]at h1;exact ij sY hq fuel _ _ _ sX h1
   rename_i o ho;simp only[ho]at h1;split
   ·rename_i hw;simp only[hw,if_true]at h1;refine .inl ?_;split at h1
    ·exact Oper.wp_mono (λa' w' hh=>ij sY hq fuel _ _ _ hh.1 hh.2) (lZ h1)
    obtain⟨v,hv,hk⟩:=h1;unfold Oper.wp;rw[hv w sX];exact ij sY hq fuel _ _ _ sX hk
   rename_i hw;simp only[hw]at h1;exact ij sY hq fuel _ _ _ sX h1⟩
theorem pR (sY:∀w,C w->D w){m:Nat}{R:Act->World->Prop}{i:Nat}{oi:Oper}(fl:Bool)(hi:ops[i]?=some oi)(og:∀(j:Nat) (o:Oper) cs b,ops[j]?=some o->o.op≠.select cs b) :
  ∀(fuel:Nat) (listed:Array Bool) (a:Act) (w:World),nS C D m listed w->pZ ops listed ->
   ((fl=true/\chain P oi=false/\i≠m)\/(fl=false/\(listed.getD m false=true\/(i≠m/\((Region.before ops).getD m 0).testBit i=true)))) ->
   (∀j oj,ops[j]?=some oj->j≠i->listed.getD j true=false->((Region.before ops).getD j 0).testBit i=false->oi.apart ops oj=true/\(chain P oi && chain P oj)=false) ->
   i∈Region.ready .any ops listed->bA P ops (if fl then D else nS C D m (listed.setIfInBounds i true)) i (pQ P ops C D m R fuel (listed.setIfInBounds i true)) a w->pQ P ops C D m R (fuel+1) listed a w:=by
 have AM:∀listed:Array Bool,∀i∈Region.ready .any ops listed,i<listed.size/\listed.getD i false=false:=λlisted i hr=>by
  have h0:=(mem_ready.1 hr).1;rcases Nat.lt_or_ge i listed.size with h'|h'
  ·simp[h']at h0 ⊢;exact h0
  simp[h']at h0
 have hE:∀(listed:Array Bool) (w:World),nS C D m listed w->(if fl then D else nS C D m (listed.setIfInBounds i true)) w:=λlisted w h=>by
  cases fl with
  | true=>exact tm sY h
  | false=>exact vT sY h
 have K8:∀(listed:Array Bool) (K:Act->World->Prop) (a:Act) (w:World),((fl=true/\chain P oi=false/\i≠m)\/(fl=false/\(listed.getD m false=true\/(i≠m/\((Region.before ops).getD m 0).testBit i=true)))) ->
   bA P ops (if fl then D else nS C D m (listed.setIfInBounds i true)) i K a w->bA P ops (nS C D m (listed.setIfInBounds i true)) i K a w:=λlisted K a w hc h=>by
  rcases hc with ⟨rfl,hq,_⟩|⟨rfl,_⟩
  ·exact Rf hi hq (λw hw=>tm sY hw) h
  exact h
 intro fuel;induction fuel with
 | zero =>
  intro listed a w hC hS xA _ hr H;refine⟨λh=>(by rw[h]at hr;cases hr),λj hj=>?_⟩;by_cases nD:j=i
  ·subst nD;exact K8 _ _ _ _ xA H
  have:=ready_mono hj nD;obtain⟨_,_,_,hh⟩:=pC (hE _ _ hC) H;rw[hh.1]at this;cases this
 | succ fuel ih =>
  intro listed a w hC hS xA lA hr H;refine⟨λh=>(by rw[h]at hr;cases hr),λj hj=>?_⟩;by_cases nD:j=i
  ·subst nD;exact K8 _ _ _ _ xA H
  obtain⟨uL,oj,qQ,dA⟩:=mem_ready.1 hj;obtain⟨aNi,GC⟩:=AM listed i hr;have aEU:=(AM listed j hj).1;have AH:((Region.before ops).getD j 0).testBit i=false:=by
   cases hb:((Region.before ops).getD j 0).testBit i with
   | false=>rfl
   | true=>have:=hS.before j i oj qQ dA hb;rw[GC]at this;cases this
  obtain⟨sZ,TJ⟩:=lA j oj qQ nD uL AH;have h1:bA P ops (if fl then D else nS C D m (listed.setIfInBounds i true)) i (bA P ops (nS C D m ((listed.setIfInBounds i true).setIfInBounds j true)) j (pQ P ops C D m R fuel ((listed.setIfInBounds i true).setIfInBounds j true))) a w :=
   bl (hE _ _ hC) (λa' w' _ hh=>hh.2 j (ready_mono hj nD)) H
  have key:bA P ops (nS C D m (listed.setIfInBounds j true)) j (bA P ops (if fl then D else nS C D m ((listed.setIfInBounds j true).setIfInBounds i true)) i (pQ P ops C D m R fuel ((listed.setIfInBounds i true).setIfInBounds j true))) a w /\
    ((fl=true/\chain P oi=false/\i≠m)\/(fl=false/\((listed.setIfInBounds j true).getD m false=true\/(i≠m/\((Region.before ops).getD m 0).testBit i=true)))):=by
   rcases xA with ⟨rfl,hq,him⟩|⟨rfl,xA⟩
   ·refine⟨?_,.inl ⟨rfl,hq,him⟩⟩;have e:nS C D m ((listed.setIfInBounds i true).setIfInBounds j true)=nS C D m (listed.setIfInBounds j true):=by
     rw[Array.setIfInBounds_comm _ _ (Ne.symm nD)];unfold nS;rw[getD_set_ne false him]
    rw[e]at h1;exact JQ (λw hw=>tm sY hw) hi qQ sZ hq (λcs b=>og i oi cs b hi) (λcs b=>og j oj cs b qQ) h1
   simp only[Bool.false_eq_true,if_false]at h1;cases hm:listed.getD m false with
   | true =>
    have e1:∀k,(listed.setIfInBounds k true).getD m false=true:=λk=>getD_set_true hm;have e2:∀k k',((listed.setIfInBounds k true).setIfInBounds k' true).getD m false=true:=λk k'=>getD_set_true (e1 k);rw[mv (e1 i),mv (e2 i j)]at h1;refine⟨?_,.inr ⟨rfl,.inl (e1 j)⟩⟩;simp only[Bool.false_eq_true,if_false];rw[mv (e1 j),mv (e2 j i)];exact mP hi qQ sZ TJ (λcs b=>og i oi cs b hi) (λcs b=>og j oj cs b qQ) h1
   | false =>
    have nV:=xA.resolve_left (by rw[hm];simp);have Lm:j≠m:=λe=>by subst e;rw[AH]at nV;simp at nV
    have ei:(listed.setIfInBounds i true).getD m false=false:=by rw[getD_set_ne false nV.1];exact hm
    have ej:(listed.setIfInBounds j true).getD m false=false:=by rw[getD_set_ne false Lm];exact hm
    have eji:((listed.setIfInBounds j true).setIfInBounds i true).getD m false=false:=by rw[getD_set_ne false nV.1];exact ej
    have eij:((listed.setIfInBounds i true).setIfInBounds j true).getD m false=false:=by rw[getD_set_ne false Lm];exact ei
    rw[mu ei,mu eij]at h1;refine⟨?_,.inr ⟨rfl,.inr nV⟩⟩;simp only[Bool.false_eq_true,if_false];rw[mu ej,mu eji];exact mP hi qQ sZ TJ (λcs b=>og i oi cs b hi) (λcs b=>og j oj cs b qQ) h1
  obtain⟨h2,uI⟩:=key;refine bl (vT sY hC) (λa' w' sX h3=>ih (listed.setIfInBounds j true) a' w' sX (hS.set hj) uI ?_ (ready_mono hr (Ne.symm nD)) ?_) h2
  ·intro k ok hk Ib W9 gG;refine lA k ok hk Ib ?_ gG;by_cases Ll:j=k
   ·subst Ll;exact uL
   rw[getD_set_ne true Ll]at W9;exact W9
  rw[show (listed.setIfInBounds i true).setIfInBounds j true=(listed.setIfInBounds j true).setIfInBounds i true from Array.setIfInBounds_comm _ _ (Ne.symm nD)]at h3
  exact h3
def J7 (P:Program)(ops:Array Oper)(bf:Array Nat):List Nat->Array Bool->Bool
 | [],listed=>(Region.ready .any ops listed).isEmpty
 | k::r,listed=>(Region.ready .any ops listed).contains k && lT P ops bf listed k && J7 P ops bf r (listed.setIfInBounds k true)
def Xr (P:Program):Option Oper->Bool
 | some o=>!chain P o
 | none=>false
def Xi (P:Program)(ops:Array Oper)(bf:Array Nat)(m:Nat)(post:List Nat):List (Nat×Bool)->Array Bool->Bool
 | [],listed=>(Region.ready .any ops listed).contains m && (Region.ready .any ops listed).all (· == m) && J7 P ops bf post (listed.setIfInBounds m true)
 | (k,fl)::r,listed=>(Region.ready .any ops listed).contains k && (k != m) && lT P ops bf listed k && (if fl then Xr P ops[k]? else (bf.getD m 0).testBit k) && Xi P ops bf m post r (listed.setIfInBounds k true)
def X5 (P:Program)(ops:Array Oper)(pre:List (Nat×Bool))(m:Nat)(post:List Nat):Bool:=Region.noSelect ops && (pre.length+(post.length+1) == ops.size) && Xi P ops (Region.before ops) m post pre (Array.replicate ops.size false)
def yk (P:Program)(ops:Array Oper)(D:World->Prop)(R:Act->World->Prop):List Nat->Act->World->Prop
 | [],a,w=>R a w
 | k::r,a,w=>bA P ops D k (yk P ops D R r) a w
def Bm (P:Program)(ops:Array Oper)(C D:World->Prop)(R:Act->World->Prop)(m:Nat)(post:List Nat):List (Nat×Bool)->Act->World->Prop
 | [],a,w=>bA P ops D m (yk P ops D R post) a w
 | (k,fl)::r,a,w=>bA P ops (if fl then D else C) k (Bm P ops C D R m post r) a w
theorem xf (sY:∀w,C w->D w){m:Nat}{R:Act->World->Prop}(hs:Region.noSelect ops=true):∀(post:List Nat) (listed:Array Bool) (a:Act) (w:World),D w->listed.getD m false=true->pZ ops listed ->
  J7 P ops (Region.before ops) post listed=true->yk P ops D R post a w->pQ P ops C D m R post.length listed a w
 | [],listed,a,w,_,_,_,hB,h=>⟨by simpa[J7] using hB,h⟩
 | k::r,listed,a,w,hD,hm,hS,hB,h=>by
  simp only[J7,Bool.and_eq_true]at hB;obtain⟨⟨hr,hf⟩,oS⟩:=hB;have jK:k∈Region.ready .any ops listed:=by simpa using hr
  obtain⟨_,ok,bU,_⟩:=mem_ready.1 jK;refine pR sY (i:=k) (oi:=ok) false bU (Region.noSelect_spec hs) r.length listed a w (by rw[mv hm];exact hD) hS (.inr ⟨rfl,.inl hm⟩) (fL bU hf) jK ?_;simp only[Bool.false_eq_true,if_false];rw[mv (getD_set_true hm)];exact bl hD (λa' w' hD' hh=>xf sY hs r _ a' w' hD' (getD_set_true hm) (hS.set jK) oS hh) h
theorem tP (sY:∀w,C w->D w){m:Nat}{post:List Nat}{R:Act->World->Prop}(hs:Region.noSelect ops=true):∀(pre:List (Nat×Bool)) (listed:Array Bool) (a:Act) (w:World),C w->listed.getD m false=false->pZ ops listed ->
  Xi P ops (Region.before ops) m post pre listed=true->Bm P ops C D R m post pre a w->pQ P ops C D m R (pre.length+(post.length+1)) listed a w
 | [],listed,a,w,hC,hm,hS,hB,h=>by
  simp only[Xi,Bool.and_eq_true,List.all_eq_true,beq_iff_eq]at hB;obtain⟨⟨hr,dA⟩,oS⟩:=hB;have jK:m∈Region.ready .any ops listed:=by simpa using hr
  have D4:m<listed.size:=by
   have h0:=(mem_ready.1 jK).1;rcases Nat.lt_or_ge m listed.size with h'|h'
   ·exact h'
   simp[h']at h0
  have em:(listed.setIfInBounds m true).getD m false=true:=by simp[D4]
  rw[List.length_nil,Nat.zero_add];refine⟨λh0=>(by rw[h0]at jK;cases jK),λi hi=>?_⟩;rw[dA i hi];rw[mv em];exact bl (sY w hC) (λa' w' hD' hh=>xf sY hs post _ a' w' hD' em (hS.set jK) oS hh) h
 | (k,fl)::r,listed,a,w,hC,hm,hS,hB,h=>by
  simp only[Xi,Bool.and_eq_true,bne_iff_ne,ne_eq]at hB;obtain⟨⟨⟨⟨hr,vK⟩,hf⟩,cI⟩,oS⟩:=hB;have jK:k∈Region.ready .any ops listed:=by simpa using hr
  obtain⟨_,ok,bU,_⟩:=mem_ready.1 jK;have em:(listed.setIfInBounds k true).getD m false=false:=by rw[getD_set_ne false vK];exact hm
  rw[List.length_cons,Nat.add_right_comm];have iQ:nS C D m listed w:=by rw[mu hm];exact hC
  cases fl with
  | true =>
   simp only[if_true]at cI;rw[bU]at cI;have hq:chain P ok=false:=by simpa[Xr] using cI
   refine pR sY (i:=k) (oi:=ok) true bU (Region.noSelect_spec hs) _ listed a w iQ hS (.inl ⟨rfl,hq,vK⟩) (fL bU hf) jK ?_;simp only[if_true];have h:bA P ops D k (Bm P ops C D R m post r) a w:=h;exact JN bU hq (λa' hh=>tP sY hs r _ a' w hC em (hS.set jK) oS hh) h
  | false =>
   simp only[Bool.false_eq_true,if_false]at cI;refine pR sY (i:=k) (oi:=ok) false bU (Region.noSelect_spec hs) _ listed a w iQ hS (.inr ⟨rfl,.inr ⟨vK,cI⟩⟩) (fL bU hf) jK ?_;simp only[Bool.false_eq_true,if_false];rw[mu em];have h:bA P ops C k (Bm P ops C D R m post r) a w:=h;exact bl hC (λa' w' sX hh=>tP sY hs r _ a' w' sX em (hS.set jK) oS hh) h
end
section
variable {P:Program}
def nO (P:Program)(ops:List Oper)(D:World->Prop)(R:Fr->World->Prop):(l:List Nat)->Fr->World->Ph (ops,D,R,l)->Prop
 | [],t,w,_=>R t w
 | k::r,t,w,_=>dZ P ops D ops[k]? (λt w=>nO P ops D R r t w .mk) t w .mk
def n9 (P:Program)(ops:List Oper)(C D:World->Prop)(R:Fr->World->Prop)(m:Nat)(post:List Nat):(l:List (Nat×Bool))->Fr->World->Ph (ops,C,D,R,m,post,l)->Prop
 | [],t,w,_=>dZ P ops D ops[m]? (λt w=>nO P ops D R post t w .mk) t w .mk
 | (k,true)::r,t,w,_=>dZ P ops D ops[k]? (λt w=>n9 P ops C D R m post r t w .mk) t w .mk
 | (k,false)::r,t,w,_=>dZ P ops C ops[k]? (λt w=>n9 P ops C D R m post r t w .mk) t w .mk
theorem Bl {ops:List Oper}{D:World->Prop}{R:Fr->World->Prop}{N:Act->World->Prop}(hn:∀t w,R t w->N ⟨t.toArray,[]⟩ w):∀(l:List Nat) (t:Fr) (w:World),nO P ops D R l t w .mk->yk P ops.toArray D N l ⟨t.toArray,[]⟩ w
 | [],t,w,h=>hn t w h
 | k::r,t,w,h=>dN (λt w=>Bl hn r t w) h
theorem wO {ops:List Oper}{C D:World->Prop}{R:Fr->World->Prop}{N:Act->World->Prop}{m:Nat}{post:List Nat}(hn:∀t w,R t w->N ⟨t.toArray,[]⟩ w):∀(l:List (Nat×Bool)) (t:Fr) (w:World),n9 P ops C D R m post l t w .mk->Bm P ops.toArray C D N m post l ⟨t.toArray,[]⟩ w
 | [],t,w,h=>dN (λt w=>Bl hn post t w) h
 | (k,true)::r,t,w,h=>dN (λt w=>wO hn r t w) h
 | (k,false)::r,t,w,h=>dN (λt w=>wO hn r t w) h
theorem Yh {id:Nat}{l:List Oper}{t:Fr}{w:World}{Q:EP}{p}(pre:List (Nat×Bool))(m:Nat)(post:List Nat)(C D:World->Prop)(hm:P.follows .mixedOrders=true)(hB:X5 P l.toArray pre m post=true)(sY:∀w,C w->D w)(hC:C w.drew)
  (h:n9 P l C D (Q .normal) m post pre t w.drew .mk):cg P (.region id l.toArray true) Q t w p:=by
 unfold cg;simp only[X5,Bool.and_eq_true,beq_iff_eq]at hB;refine wp_region_any hm ?_;have hG:pQ P l.toArray C D m (λa w=>lift Q .normal a w) (pre.length+(post.length+1)) (Array.replicate l.toArray.size false) ⟨t.toArray,[]⟩ w.drew:=by
  refine tP sY hB.1.1 pre _ _ _ hC (by rw[Array.getD_eq_getD_getElem?,Array.getElem?_replicate];split<;>rfl) (λj o _ hl=>by simp[Array.getElem?_replicate]at hl;split at hl<;>simp at hl) hB.2 ?_;exact wO (P:=P) (R:=Q .normal) (N:=λa w=>lift Q .normal a w) (λt w hk=>⟨rfl,by simpa using hk⟩) pre t w.drew h
 rw[hB.1.2]at hG;exact ij sY (R:=λa w=>lift Q .normal a w) (Q:=λe a w=>lift Q e a w) (λ_ _ h=>h) _ _ _ _ (by rw[mu (by rw[Array.getD_eq_getD_getElem?,Array.getElem?_replicate];split<;>rfl)];exact hC) hG
variable {t:Fr} {w:World} {C D:World->Prop} {R:Fr->World->Prop}
theorem KU (ops)(p):nO P ops D R [] t w p=R t w:=(rfl)
theorem HA (ops k r)(p):nO P ops D R (k::r) t w p=dZ P ops D ops[k]? (λt w=>nO P ops D R r t w .mk) t w .mk:=(rfl)
theorem NF (ops m post)(p):n9 P ops C D R m post [] t w p=dZ P ops D ops[m]? (λt w=>nO P ops D R post t w .mk) t w .mk:=(rfl)
theorem KW (ops m post k r)(p):n9 P ops C D R m post ((k,true)::r) t w p=dZ P ops D ops[k]? (λt w=>n9 P ops C D R m post r t w .mk) t w .mk:=(rfl)
theorem HB (ops m post k r)(p):n9 P ops C D R m post ((k,false)::r) t w p=dZ P ops C ops[k]? (λt w=>n9 P ops C D R m post r t w .mk) t w .mk:=(rfl)
end
attribute [push_cast] KU HA NF KW HB
attribute [irreducible] nO n9
end Go.Vc
end
section
namespace Go.Vc
open Go.RowKit
theorem Own.aLr {α:Type}{base k:Nat}{e:TypeId}{enc:α->List Value}{w:World}{b o n c:Nat}{l:List α}(h:Vc.Own base e k enc w (.slice (some ⟨b,o,none⟩) n c) l):o=0:=by
 rcases h.1.2 with ⟨he,_⟩|⟨g,cap,cr,he,_⟩
 ·cases he
 cases he;rfl
section
variable {P:Program} {t:Fr} {w:World} {C:World->Prop} {K:VK}
theorem XL (d)(args:List Operand)(mi ty pos af g)(p):dm P ⟨d,.call { callee:=.builtin .max,args:=args.toArray,argTypes:=mi },ty,pos,af,g⟩ t w C K p =
  Yy true (args.map (ev t)) (K · w) False .mk:=rfl
theorem XM (d)(args:List Operand)(mi ty pos af g)(p):dm P ⟨d,.call { callee:=.builtin .min,args:=args.toArray,argTypes:=mi },ty,pos,af,g⟩ t w C K p =
  Yy false (args.map (ev t)) (K · w) False .mk:=rfl
end
attribute [push_cast] XL XM
theorem dL {P:Program}{f:FuncId}{fn:Func}{args:List Value}{w:World}{R:VK}(hf:P.funcs[f]?=some fn)(hb:fn.body.isNone=false)(hn:(fn.name == "runtime.NumGoroutine")=false)
  (h:Calls P f args.toArray w λe w'=>∃v,e=.returned v/\R v w'):ar P f args w R:=⟨bg hf hb hn,h⟩
theorem X7 {α:Type}{w:World}{e:TypeId}{k g G:Nat}{enc:α->List Value}{cur:Array Value}(hk:∀x,(enc x).length=k)(hb:w.heap[g]?=some (.cells cur e (0,0)))(hG:G<=maxLen)(hs:cur.size=G*k):Vc.Own g e k enc w (.slice (some ⟨g,0,none⟩) 0 G) ([]:List α) :=
 ⟨⟨by simp,.inr ⟨g,G,cur,rfl,Nat.le_refl _,hb,Nat.zero_le _,hG,hs,by simp⟩⟩,hk⟩
theorem Ei {P:Program}{f:FuncId}{args:List Value}{w:World}{R:VK}(h:ar P f args w R):Calls P f args.toArray w λe w'=>∃v,e=.returned v/\R v w':=h.2
end Go.Vc
namespace Go.Proofs.YtemjejfpadnljaaGreatDoor
open Go.Vc Go.Proofs Go.RowKit Cae
attribute [local irreducible] cg aa ag aX runK ar Sl Vc.Own vc aQ br a7
end Go.Proofs.YtemjejfpadnljaaGreatDoor
namespace Go.RowKit
theorem Below.tr {a b c:World}(h:Below a.heap.size a b)(k:Below b.heap.size b c):Below a.heap.size a c:=h.trans (k.mono h.size)
end Go.RowKit
end
section
namespace Cae
def P0 (n:Nat):UInt8:=if n<10 then UInt8.ofNat (48+n) else UInt8.ofNat (87+n)
def qM:Nat->Nat->List UInt8->List UInt8
 | 0,n,acc=>P0 n::acc
 | f+1,n,acc=>if n<16 then P0 n::acc else qM f (n / 16) (P0 (n % 16)::acc)
def gj (n:Nat):List UInt8:=qM 8 n []
theorem I0:∀(f n:Nat) (acc:List UInt8),(qM f n acc).length<=f+1+acc.length
 | 0,n,acc=>by rw[qM];simp;omega
 | f+1,n,acc=>by
  rw[qM];split
  ·simp;omega
  have:=I0 f (n / 16) (P0 (n % 16)::acc);rw[List.length_cons]at this;omega
theorem uJ (n:Nat):(gj n).length<=9:=I0 8 n []
end Cae
namespace Go.Vc
open Go.RowKit
theorem aBW {α:Type}{f:α->Value}{w:World}{b c j n:Nat}{e:TypeId}{l:List α}{cs:List Value}(hB:aL w b e cs)(hd:cs.drop j=l.map f)(hn:n=l.length)(hc:l.length<=c):Sl (λ_=>False) 1 (En (λx=>[f x])) w (.slice (some ⟨b,j,none⟩) n c) l:=by
 subst hn;refine⟨_,_,rfl,hc,λi x hx=>⟨b,j,[f x],rfl,id,rfl,λk u hu=>?_,rfl⟩⟩;cases k with
 | zero =>
  simp at hu;subst hu;rw[Nat.mul_one,Nat.add_zero];refine hB.cell ?_;have h1:(cs.drop j)[i]?=some (f x):=by rw[hd,List.getElem?_map,hx];rfl
  rwa [List.getElem?_drop]at h1
 | succ k=>simp at hu
end Go.Vc
namespace Go.Proofs.YtemjejfpadnljaaGreatDoor
open Go.Vc Go.Proofs Go.RowKit Cae
attribute [local irreducible] cg aa ag aX runK ar Sl Vc.Own vc aQ br a7
def Db (w:World):Prop:=w.cell? ⟨9,15,none⟩=some (.int .u8 4)
theorem Db.below {w w':World}{B:Nat}(h:Db w)(hb:Below B w w')(hB:9<B):Db w':=(hb.cell hB).trans h
theorem Db.lt {w:World}(h:Db w):9<w.heap.size:=World.block_lt_of_cell? w _ h
theorem Ed {x y:Nat}(hx:x<18446744073709551616)(hy:y<18446744073709551616):cD .and .u64 x y=((x &&& y:Nat):Int):=by
 simp only[cD,ll,BitVec.toNat_and,BitVec.toNat_ofNat];rw[Nat.mod_eq_of_lt (show x<2 ^ IntKind.u64.bits by show x<2 ^ 64;omega),Nat.mod_eq_of_lt (show y<2 ^ IntKind.u64.bits by show y<2 ^ 64;omega),fQ,Nat.mod_eq_of_lt (Ks (n:=64) hx)]
theorem Uu:∀d:Nat,d<16->([48,49,50,51,52,53,54,55,56,57,97,98,99,100,101,102,103,104,105,106,107,108,109,110,111,112,113,114,115,116,117,118,119,120,121,122]:List UInt8).getD d 0=P0 d:=by decide
theorem aFZ (w:World):ar Tryz.prog 231 [.int .i64 16] w λr w'=>r=.bool true/\w'=w:=by
 refine aE Tryz.func231 rfl (by kernel_rfl) [2] rfl ?_;push_cast -dsimp(maxSteps:=4000000) [Tryz.ntmps231];have e1:cD .and .i64 16 15=0:=by decide +kernel
 rw[e1];rfl
theorem aGv (w:World)(h:Db w):ar Tryz.prog 234 [.int .u64 16] w λr w'=>r=.int .i64 4/\w'=w:=by
 refine aE Tryz.func234 rfl (by kernel_rfl) [2] rfl ?_;push_cast -dsimp(maxSteps:=4000000) [Tryz.ntmps234];push_cast -dsimp;have e1:(IntKind.u64.wrap (cD .and .u64 16 (IntKind.u64.wrap (-16))*285870213051353865)).fdiv (2 ^ min 58 IntKind.u64.bits)=15:=by decide +kernel
 rw[e1];have h':w.cell? ⟨9,15,none⟩=some (.int .u8 4):=h;push_cast -dsimp[h'];rfl
theorem aOS (w:World)(h:Db w):ar Tryz.prog 232 [.int .u64 16] w λr w'=>r=.int .i64 4/\w'=w:=by
 refine aE Tryz.func232 rfl (by kernel_rfl) [2] rfl ?_;push_cast -dsimp(maxSteps:=4000000) [Tryz.ntmps232];refine aA (aGv w h) ?_;rintro _ w1 ⟨rfl,rfl⟩;push_cast -dsimp
theorem Sb {P:Program}{xt:TypeId}{n s:Nat}{e:TypeId}{E:Option (TypeId×Nat)}{a:Addr}{j:Nat}{L:VP}{o:Oper}{t:Fr}{w:World}{K:VK}{Q:EP}{p}(hu:P.underlying xt=some (.array n e))(hn:P.arrayLen xt=n)(he:P.elem xt=e)
  (hs:(sizeOf e).run P w=.ok s w) (ho:execOp (ev t) o=(do pure (.value (<-Instr.sliceAt xt (.pointer (some a)) (some (.int .i64 (j:Int))) none none)))) (hj:j<n)
  (k:K (.slice (some (a.add (j*s))) (n-j) (n-j)) w):fY (P.underlying xt) E (.pointer (some a)) (some (.int .i64 (j:Int))) none none L (runK P o t w K Q .mk) p:=by
 rw[hu]
 show runK P o t w K Q .mk
 refine fq ho (ff ?_ k);rw[run_sliceAt_array_l w xt a (by rw[hu,hn,he]) .i64 (j:Int) (by omega) (by rw[hn];omega),he,hs];rw[hn];unfold slicedAt;rw[Int.toNat_natCast]
 show Result.ok (Value.slice (some (if n=j then a else a.add (j*s))) (n-j) (n-j)) w=_
 rw[if_neg (by omega)]
theorem Fj (n:Nat)(hn:n<4294967296)(w:World)(h:Db w) :
  ar Tryz.prog 228 [.slice none 0 0,.int .u64 (n:Int),.int .i64 16,.bool false,.bool false] w λr w'=>r=.tuple #[.slice none 0 0,str (gj n)]/\Below w.heap.size w w':=by
 refine aE Tryz.func228 rfl (by kernel_rfl) [10,11] rfl ?_;push_cast -dsimp(maxSteps:=4000000) [Tryz.ntmps228];push_cast -dsimp;refine ao (z:=List.replicate 65 (.int .u8 0)) (by kernel_rfl) ?_;intro w1 aV;have ph:=aV.size;have gU:=aV.below;push_cast -dsimp;refine aA (aFZ w1) ?_;rintro _ w2 ⟨rfl,rfl⟩;push_cast -dsimp;have e4:IntKind.u64.wrap 4=4:=by decide
 have e16:IntKind.u64.wrap 16=16:=by decide
 have e15:IntKind.u64.wrap (16-1)=15:=by decide
 refine aA (aOS w2 (h.below gU h.lt)) ?_;rintro _ w3 ⟨rfl,rfl⟩;push_cast -dsimp[e4,e16,e15];refine aK [1,13,44,45,46,47,48,49,50,51,52,53,54,55,56,57] (λz wx=>∃(f m i:Nat) (acc:List UInt8) (cs:List Value),z 1=.int .u64 (m:Int)/\z 13=.int .i64 (i:Int)/\i=57+f/\f<=8/\m<16 ^ (f+1)/\qM f m acc=gj n/\cs.length=65/\cs.drop i=acc.map (λb=>.int .u8 (b.toNat:Int))/\aL wx w.heap.size 306 cs/\Below w.heap.size w wx) (λz _=>(intOf (z 13)).toNat) ?_ ?_
 ·refine⟨8,n,65,[],_,rfl,rfl,rfl,Nat.le_refl _,by omega,rfl,List.length_replicate ..,?_,aV.aM,gU⟩;rfl
 intro z wx hI;obtain⟨f,m,i,acc,cs,h1,zm,hif,hf,hm,hh,iQ,hcd,hB,eW⟩:=hI;have yS:=eW.size;have aNA:m<18446744073709551616:=Nat.lt_of_lt_of_le hm (Nat.le_trans (Nat.pow_le_pow_right (by omega) (show f+1<=9 by omega)) (by decide))
 have TM:∃d,m % 16=d:=⟨_,rfl⟩;obtain⟨d,hd⟩:=TM;have aMO:d<16:=by omega
 have ea:cD .and .u64 (m:Int) (IntKind.u64.wrap 15)=(d:Int):=by
  rw[show IntKind.u64.wrap 15=((2 ^ 4-1:Nat):Int) from rfl,Ed aNA (by omega),lz,<-hd]
 have hq:∃q,m / 16=q:=⟨_,rfl⟩;obtain⟨q,hq⟩:=hq;have es:(m:Int).fdiv (2 ^ min 4 IntKind.u64.bits)=(q:Int):=by
  rw[<-hq];exact yi (b:=4) (k:=4) rfl (by decide)
 have Nh:∃j,i=j+1:=⟨i-1,by omega⟩;obtain⟨j,rfl⟩:=Nh;have ej:((j:Nat):Int)+1-1=(j:Int):=by omega
 push_cast -dsimp[h1,zm,ea,es,ej];refine⟨λeo=>?_,λaj=>?_⟩
 ·refine⟨⟨by omega,by omega⟩,⟨by omega,by omega⟩,⟨by omega,by omega⟩,?_⟩;rw[Uu d aMO];refine aC hB (by omega) rfl ?_;intro w5 cH;have Mq:w5.heap.size=wx.heap.size:=cH.size;push_cast -dsimp[es];cases f with
  | zero=>exact absurd hm (by omega)
  | succ f =>
   rw[qM,if_neg (by omega),hq,hd]at hh;refine⟨⟨f,q,j,P0 d::acc,_,rfl,rfl,by omega,by omega,?_,hh,by rw[List.length_set];exact iQ,?_,cH.aM,eW.trans (cH.kept.below yS (λg hg=>Nat.le_of_eq (Eq.symm hg)))⟩,by rw[zm];simp only[intOf];omega⟩
   ·rw[<-hq];refine Nat.div_lt_of_lt_mul ?_;rw[Nat.mul_comm,<-Nat.pow_succ];exact hm
   rw[List.drop_set,if_neg (by omega),Nat.sub_self,List.drop_eq_getElem_cons (by omega),List.set_cons_zero,hcd,List.map_cons]
 have DZ:P0 m::acc=gj n:=by
  rw[<-hh];cases f with
  | zero=>rfl
  | succ f=>rw[qM,if_pos (by omega)]
 have aNz:m<16:=by omega
 refine⟨⟨by omega,by omega⟩,⟨by omega,by omega⟩,⟨by omega,by omega⟩,?_⟩;rw[Uu m aNz];refine aC hB (by omega) rfl ?_;intro w5 cH;have Mq:w5.heap.size=wx.heap.size:=cH.size;push_cast -dsimp;refine Sb (n:=65) (s:=1) (e:=5) (by kernel_rfl) (by kernel_rfl) (by kernel_rfl) (by rfl) rfl (by omega) ?_;push_cast -dsimp;have oh:Sl (λ_=>False) 1 (En jH) w5 (.slice (some ⟨w.heap.size,j,none⟩) (65-j) (65-j)) (P0 m::acc):=by
  refine aBW (f:=λb:UInt8=>.int .u8 (b.toNat:Int)) cH.aM ?_ ?_ ?_
  ·rw[List.drop_set,if_neg (by omega),Nat.sub_self,List.drop_eq_getElem_cons (by omega),List.set_cons_zero,hcd,List.map_cons]
  ·have:=congrArg List.length hcd;rw[List.length_drop,List.length_map,iQ]at this;rw[List.length_cons];omega
  have:=congrArg List.length hcd;rw[List.length_drop,List.length_map,iQ]at this;rw[List.length_cons];omega
 refine aGa (e:=5) (by kernel_rfl) (by kernel_rfl) (by kernel_rfl) oh ?_;push_cast -dsimp;rw[DZ];exact⟨rfl,eW.trans (cH.kept.below yS (λg hg=>Nat.le_of_eq (Eq.symm hg)))⟩
theorem VT (n:Nat)(hn:n<4294967296)(w:World)(h:Db w):ar Tryz.prog 221 [.int .i64 (n:Int),.int .i64 16] w λr w'=>r=str (gj n)/\Below w.heap.size w w':=by
 refine aE Tryz.func221 rfl (by kernel_rfl) [4] rfl ?_;push_cast -dsimp(maxSteps:=4000000) [Tryz.ntmps221];have e1:IntKind.u64.wrap (n:Int)=(n:Int):=by rw[fQ,Nat.mod_eq_of_lt (by omega)]
 have e2:decide ((n:Int)<0)=false:=decide_eq_false (by omega);push_cast -dsimp[e1,e2];refine aA (Fj n hn w h) ?_;rintro _ w1 ⟨rfl,hb⟩;push_cast -dsimp;exact hb
theorem aD5 (n:Nat)(hn:n<4294967296)(w:World)(h:Db w):ar Tryz.prog 209 [.int .i64 (n:Int),.int .i64 16] w λr w'=>r=str (gj n)/\Below w.heap.size w w':=by
 refine aE Tryz.func209 rfl (by kernel_rfl) [4] rfl ?_;push_cast -dsimp(maxSteps:=4000000) [Tryz.ntmps209];refine aA (VT n hn w h) ?_;rintro _ w1 ⟨rfl,hb⟩;push_cast -dsimp;exact hb
theorem aC2 (n:Nat)(hn:n<4294967296)(w:World)(h:Db w):ar Tryz.prog 187 [.int .i64 (n:Int)] w λr w'=>r=str (gj n)/\Below w.heap.size w w':=by
 refine aE Tryz.func187 rfl (by kernel_rfl) [2] rfl ?_;push_cast -dsimp(maxSteps:=4000000) [Tryz.ntmps187];refine aA (aD5 n hn w h) ?_;rintro _ w1 ⟨rfl,hb⟩;push_cast -dsimp;exact hb
end Go.Proofs.YtemjejfpadnljaaGreatDoor
end
section
namespace Go.Proofs.YtemjejfpadnljaaGreatDoor
open Go.Vc Go.Proofs Go.RowKit
def bT (k:Nat):List Value:=[.int .i64 k]
end Go.Proofs.YtemjejfpadnljaaGreatDoor
namespace Go.Vc
def encS (b:List UInt8):List Value:=[str b]
end Go.Vc
end
section
namespace Go.Vc
open Go.RowKit
theorem Sl.strs {X:Nat->Prop}{w:World}{v:Value}{x:List UInt8}{l:List (List UInt8)}(h:Sl X 1 (En Vc.encS) w v (x::l)):∃b o c,v=.slice (some ⟨b,o,none⟩) (x::l).length c/\(x::l).length<=c/\b<w.heap.size/\∀(j:Nat) y,((x::l).map λt:List UInt8=>(⟨t.toArray⟩:ByteArray))[j]?=some y->w.cell? ⟨b,o+j,none⟩=some (.string y):=by
 obtain⟨a,c,rfl,hc,yZ⟩:=h;have h0:=yZ 0 x rfl;obtain⟨b,o,cs,rfl,hb,il,aU,hr⟩:=h0;have dA:∀(j:Nat) y,((x::l).map λt:List UInt8=>(⟨t.toArray⟩:ByteArray))[j]?=some y->w.cell? ⟨b,o+j,none⟩=some (.string y):=by
  intro j y hy;rw[List.getElem?_map]at hy;cases hx:(x::l)[j]? with
  | none=>rw[hx]at hy;cases hy
  | some t =>
   rw[hx]at hy;cases hy;have h1:=yZ j t hx;obtain⟨b1,o1,cs1,he,gU,aS8,aEI,vM⟩:=h1;cases he
   have:=aEI 0 (str t) (by rw[vM];rfl);rwa [Nat.mul_one,Nat.add_zero]at this
 exact⟨b,o,c,rfl,hc,World.block_lt_of_cell? w _ (dA 0 _ rfl),dA⟩
end Go.Vc
namespace Go.Proofs.YtemjejfpadnljaaGreatDoor
open Go.Vc Go.Proofs Go.RowKit Cae
attribute [local irreducible] cg aa ag aX runK ar Sl Vc.Own vc aQ br a7
def D9:Go.Shelf.Ren:=⟨λ| 156=>21|165=>37|166=>38|169=>39|240=>61|241=>62|276=>101|277=>102|n=>n,λ| 31=>56|9=>9|3=>3|4=>4|0=>0|20=>20|72=>90|76=>92|70=>87|37=>88|75=>34|127=>150|164=>192|5=>5|80=>94|n=>n,λ| n=>n⟩
theorem aDf:Go.Proofs.Lays.n156 Tryz.prog D9:={
 mixed:=by kernel_rfl
 f156:=Tryz.func21.trans (congrArg some (by kernel_rfl))
 f165:=Tryz.func37.trans (congrArg some (by kernel_rfl))
 f166:=Tryz.func38.trans (congrArg some (by kernel_rfl))
 f169:=Tryz.func39.trans (congrArg some (by kernel_rfl))
 f240:=Tryz.func61.trans (congrArg some (by kernel_rfl))
 f241:=Tryz.func62.trans (congrArg some (by kernel_rfl))
 f276:=Tryz.func101.trans (congrArg some (by kernel_rfl))
 f277:=Tryz.func102.trans (congrArg some (by kernel_rfl))
 t0:=Tryz.underlying0
 a0:=Tryz.isAgg0
 z0:=Tryz.sizeOf0
 v0:=Tryz.zeroValue0
 t3:=Tryz.underlying3
 a3:=Tryz.isAgg3
 z3:=Tryz.sizeOf3
 v3:=Tryz.zeroValue3
 t4:=Tryz.underlying4
 a4:=Tryz.isAgg4
 z4:=Tryz.sizeOf4
 v4:=Tryz.zeroValue4
 t9:=Tryz.underlying9
 a9:=Tryz.isAgg9
 z9:=Tryz.sizeOf9
 v9:=Tryz.zeroValue9
 t20:=Tryz.underlying20
 a20:=Tryz.isAgg20
 z20:=Tryz.sizeOf20
 v20:=Tryz.zeroValue20
 t31:=Tryz.underlying56
 a31:=Tryz.isAgg56
 z31:=Tryz.sizeOf56
 v31:=Tryz.zeroValue56
 t37:=Tryz.underlying88
 a37:=Tryz.isAgg88
 z37:=Tryz.sizeOf88
 v37:=Tryz.zeroValue88
 t70:=Tryz.underlying87
 a70:=Tryz.isAgg87
 z70:=Tryz.sizeOf87
 v70:=Tryz.zeroValue87
 t72:=Tryz.underlying90
 a72:=Tryz.isAgg90
 z72:=Tryz.sizeOf90
 v72:=Tryz.zeroValue90
 t75:=Tryz.underlying34
 a75:=Tryz.isAgg34
 z75:=Tryz.sizeOf34
 v75:=Tryz.zeroValue34
 t76:=Tryz.underlying92
 a76:=Tryz.isAgg92
 z76:=Tryz.sizeOf92
 v76:=Tryz.zeroValue92
 t127:=Tryz.underlying150
 a127:=Tryz.isAgg150
 z127:=Tryz.sizeOf150
 v127:=Tryz.zeroValue150
 t164:=Tryz.underlying192
 a164:=Tryz.isAgg192
 z164:=Tryz.sizeOf192
 v164:=Tryz.zeroValue192 }
theorem aDg:Builder.Extra Tryz.prog D9 where
 sizeBuilder:=by kernel_rfl
 liesBuilder:=by kernel_rfl
 t5:=by kernel_rfl
 a5:=λw=>(nN (P:=Tryz.prog) (by kernel_rfl) w).1
 z5:=λw=>(nN (P:=Tryz.prog) (by kernel_rfl) w).2
 v5:=by intro w;rfl
 infoByte:=by kernel_rfl
 cellsByte:=by kernel_rfl
 sizeByte:=by kernel_rfl
 neB5:=by decide
theorem aFx (l:List (List UInt8))(sep:List UInt8)(hN:l.length<1000000000)(hlen:(Lib.join l sep).length<=140737488355328)(X:Nat->Prop)(v:Value)(w:World)(hv:Sl X 1 (En Vc.encS) w v l) :
  ar Tryz.prog 21 [v,str sep] w λr w'=>r=str (Lib.join l sep)/\Below w.heap.size w w':=by
 refine dL Tryz.func21 (by kernel_rfl) (by kernel_rfl) ?_;cases l with
 | nil =>
  have fa:=hv.shape;obtain⟨a,c,rfl,hc⟩:=fa;refine Calls.mono (Any.strings_Join_none aDf aDg a c ⟨sep.toArray⟩ w) ?_;rintro e w' ⟨rfl,rfl⟩;exact⟨_,rfl,rfl,Below.refl _ _⟩
 | cons x l =>
  have oh:=hv.strs;obtain⟨b,o,c,rfl,hc,hb,aU⟩:=oh;have e1:(((x::l).map λt:List UInt8=>(⟨t.toArray⟩:ByteArray)).map (·.data.toList))=x::l:=by
   rw[List.map_map];exact List.map_id' _
  have hj:=Any.strings_Join aDf aDg b o c ((x::l).map λt:List UInt8=>(⟨t.toArray⟩:ByteArray)) ⟨sep.toArray⟩ w aU hb (by rw[List.length_map];omega) (by rw[List.length_map];exact hc) (by rw[e1];exact hlen);rw[e1,List.length_map]at hj;refine Calls.mono hj ?_;rintro e w' ⟨rfl,hbl⟩;exact⟨_,rfl,rfl,hbl⟩
end Go.Proofs.YtemjejfpadnljaaGreatDoor
end
section
namespace Cae
def rm (r:Rg):List UInt8:=gj r.1.toNat++(if r.1<r.2 then 45::gj r.2.toNat else [])
def gT (s:List Rg):List UInt8:=91::(Go.Lib.join (s.map rm) [32]++[93])
def Wr (s:List Rg):Prop:=∀r∈s,0<=r.1/\r.1<4294967296/\r.2<4294967296
theorem O5 (r:Rg):(rm r).length<=19:=by
 unfold rm;have h1:=uJ r.1.toNat;have h2:=uJ r.2.toNat;split<;>simp<;>omega
theorem RH (s:List Rg):(Go.Lib.join (s.map rm) [32]).length<=20*s.length:=by
 cases s with
 | nil=>simp[Go.Lib.join_nil]
 | cons r s =>
  rw[List.map_cons,Go.Lib.join_cons,List.length_append,Go.Lib.joinTail_length];have h1:=O5 r;have h2:Go.Lib.lens (s.map rm)<=19*s.length:=by
   induction s with
   | nil=>simp[Go.Lib.lens]
   | cons q s ih =>
    have:=O5 q;simp only[Go.Lib.lens,List.map_cons,List.sum_cons,List.length_cons]at ih ⊢
    omega
  simp only[List.length_cons,List.length_nil,List.length_map];omega
theorem Bo:∀{s:List Rg} {a:Int},-2<=a->aO a s=true->Wr s
 | [],_,_,_=>λr hr=>by cases hr
 | q::s,a,ha,h=>by
  rw[bo]at h;intro r hr;rcases List.mem_cons.1 hr with rfl|hr
  ·omega
  exact Bo (by omega) h.2 r hr
end Cae
namespace Go.Proofs.YtemjejfpadnljaaGreatDoor
open Go.Vc Go.Proofs Go.RowKit Cae
attribute [local irreducible] cg aa ag aX runK ar Sl Vc.Own vc aQ br a7
theorem OY (s:List Rg)(hs:s.length<10000000)(hw:Wr s)(X:Nat->Prop)(v:Value)(w:World)(hv:Sl X 2 (En ay) w v s)(h:Db w) :
  ar Tryz.prog 168 [v] w λr w'=>r=str (gT s)/\Below w.heap.size w w':=by
 obtain⟨a,c,rfl,hc⟩:=hv.shape;refine aE Tryz.func168 rfl (by kernel_rfl) [2] rfl ?_;push_cast -dsimp(maxSteps:=4000000) [Tryz.ntmps168];refine aK [3,5,6,9,10,11,12,13,14,15,16,17,18,19,20,21,22,23,24,25,26,27,28,29,30,31] (λz wx=>∃(i:Nat) (ov:Value),z 9=.int .i64 i/\z 3=ov/\i<=s.length/\Vc.Own w.heap.size 9 1 Vc.encS wx ov ((s.take i).map rm)/\Below w.heap.size w wx) (λz _=>s.length-(intOf (z 9)).toNat) ?_ ?_
 ·exact⟨0,_,rfl,rfl,Nat.zero_le _,Vc.Own.nil (enc:=Vc.encS) _ _ (λ_=>rfl) _,Below.refl _ _⟩
 intro z wx hI;obtain⟨i,ov,h9,h3,hi,eG,eW⟩:=hI;have yS:=eW.size;push_cast -dsimp[h9,h3];refine⟨λaj=>?_,λeo=>?_⟩
 ·have hg:=ah (l:=s) (i:=i) (by omega);obtain⟨x,hx,mm,_,ht⟩:=hg;have ny:=hv.below eW;have hg:=ny.get hx;obtain⟨b,o,rfl,mJ,aU⟩:=hg;have cx:aB wx ⟨b,o+i*2,none⟩ 0 2=some [.int .i64 x.1,.int .i64 x.2]:=ak (ay x) 0 (λj u hu=>by simpa using aU j u hu);have hxw:=hw x mm;obtain⟨x1,x2,x3⟩:=hxw;have QI:(s.take (i+1)).map rm=(s.take i).map rm++[rm x]:=by
   rw[ht,List.map_append];rfl
  have hgn:∃n:Nat,x.1=n:=⟨x.1.toNat,by omega⟩;obtain⟨n,hn⟩:=hgn;rw[hn]at cx;push_cast -dsimp[cx];refine⟨⟨by omega,by omega⟩,?_⟩;refine ao (z:=[.int .i64 0,.int .i64 0]) (by kernel_rfl) ?_;intro w3 cM;have Kf:=cM.size;push_cast -dsimp;refine aH (n:=2) (by kernel_rfl) cM.aM rfl (by simp) (by simp[Value.oneCell']) ?_;intro w4 ae;have KB:=ae.size;have c0:w4.cell? ⟨wx.heap.size,0,none⟩=some (.int .i64 (n:Int)):=ae.aM.cell rfl;have c1:w4.cell? ⟨wx.heap.size,1,none⟩=some (.int .i64 x.2):=ae.aM.cell rfl;push_cast -dsimp[c0,c1];have k4:Kept (λj=>j=wx.heap.size) wx w4:=(Kept.new cM).trans ae.kept (λ_ _ h=>h);have kQ:=eG.aJ k4 (λg hg h=>by have:=eG.block g hg;omega);have nd:Below w.heap.size w w4:=eW.trans (k4.below yS (λ_ h=>by omega));have fa:=kQ.slice;obtain⟨oa,oc,rfl⟩:=fa;refine aA (aC2 n (by omega) w4 (h.below nd h.lt)) ?_;rintro _ w5 ⟨rfl,mj⟩;have Mq:=mj.size;have CF:=kQ.below mj;have Fk:=nd.trans (mj.mono (show w.heap.size<=w4.heap.size by omega))
  have c5:w5.cell? ⟨wx.heap.size,0,none⟩=some (.int .i64 (n:Int)):=(mj.cell (by show wx.heap.size<w4.heap.size;omega)).trans c0
  have c5':w5.cell? ⟨wx.heap.size,1,none⟩=some (.int .i64 x.2):=(mj.cell (by show wx.heap.size<w4.heap.size;omega)).trans c1
  push_cast -dsimp[c5,c5'];refine⟨λHJ=>?_,λhle=>?_⟩
  ·have hgm:∃m:Nat,x.2=m:=⟨x.2.toNat,by omega⟩;obtain⟨m,hm⟩:=hgm;have hrg:rm x=gj n++45::gj m:=by unfold rm;rw[if_pos (by omega),hn,hm];rfl
   rw[hm]at c5';rw[hm];refine aA (aC2 m (by omega) w5 (h.below Fk h.lt)) ?_;rintro _ w6 ⟨rfl,mI⟩;have KC:=mI.size;have po:=CF.below mI;have rI:=Fk.trans (mI.mono (show w.heap.size<=w5.heap.size by omega))
   have xB:=uJ n;have od:=uJ m;push_cast -dsimp;refine⟨by omega,by simp only[List.length_append,List.length_cons,List.length_nil];omega,?_⟩;refine cG sU rfl rfl (by omega) ?_;intro w7 fK;have KD:w7.heap.size=w6.heap.size+1:=fK.size;have mL:=po.new fK;push_cast -dsimp;refine aW (base:=w.heap.size) [rm x] (enc:=Vc.encS) sU mL (by rfl) (λj u hu=>by rw[hrg]at hu;rw[Nat.zero_add];exact fK.cell hu) (by simp[Vc.encS,str,Value.oneCell']) (by simp only[List.length_cons,List.length_nil,List.length_map,List.length_take];omega) (by omega) ?_;intro v8 w8 rK DY hn8;have ma:Below w.heap.size w w8:=(rI.trans (fK.below.mono (by omega))).trans ((Kept.grown (X:=λj=>w.heap.size<=j) DY (λk hk=>(mL.block k hk).1)).below (by omega) (λ_ h=>h));rw[<-QI]at rK;push_cast -dsimp;exact⟨⟨by omega,by omega⟩,⟨i+1,_,rfl,rfl,by omega,rK,ma⟩,by rw[h9];simp only[intOf];omega⟩
  have hrg:rm x=gj n:=by unfold rm;rw[if_neg (by omega),hn];exact List.append_nil _
  refine cG sU rfl rfl (by omega) ?_;intro w7 fK;have KD:w7.heap.size=w5.heap.size+1:=fK.size;have mL:=CF.new fK;push_cast -dsimp;refine aW (base:=w.heap.size) [rm x] (enc:=Vc.encS) sU mL (by rfl) (λj u hu=>by rw[hrg]at hu;rw[Nat.zero_add];exact fK.cell hu) (by simp[Vc.encS,str,Value.oneCell']) (by simp only[List.length_cons,List.length_nil,List.length_map,List.length_take];omega) (by omega) ?_;intro v8 w8 rK DY hn8;have ma:Below w.heap.size w w8:=(Fk.trans (fK.below.mono (by omega))).trans ((Kept.grown (X:=λj=>w.heap.size<=j) DY (λk hk=>(mL.block k hk).1)).below (by omega) (λ_ h=>h));rw[<-QI]at rK;push_cast -dsimp;exact⟨⟨by omega,by omega⟩,⟨i+1,_,rfl,rfl,by omega,rK,ma⟩,by rw[h9];simp only[intOf];omega⟩
 have mc:i=s.length:=by omega
 subst mc;rw[List.take_length]at eG;have hjl:=RH s;refine aA (aFx (s.map rm) [32] (by rw[List.length_map];omega) (by omega) _ _ wx eG.sl) ?_;rintro _ w6 ⟨rfl,mI⟩;have rI:=eW.trans (mI.mono yS);push_cast -dsimp;refine⟨by omega,by simp only[List.length_append,List.length_cons,List.length_nil];omega,?_,rI⟩;rfl
end Go.Proofs.YtemjejfpadnljaaGreatDoor
end
section
namespace Cae
def mC (c:UInt8)(s:List UInt8):List UInt8×List UInt8×Bool:=if s.contains c then (s.takeWhile (· != c),(s.dropWhile (· != c)).drop 1,true) else (s,[],false)
def splitB (c:UInt8):List UInt8->List (List UInt8)
 | []=>[[]]
 | b::r=>if b == c then []::splitB c r else match splitB c r with
  | []=>[[b]]
  | p::ps=>(b::p)::ps
theorem uR (c:UInt8):∀s:List UInt8,Go.Lib.indexByte s c=if s.contains c then ((s.takeWhile (· != c)).length:Int) else -1
 | []=>rfl
 | b::r=>by
  rw[Go.Lib.indexByte,List.contains_cons,uR c r,List.takeWhile_cons];by_cases h:b=c
  ·subst h;simp
  have h1:(b == c)=false:=by simpa using h
  have h2:(c == b)=false:=by simpa using(λe=>h e.symm:¬c=b)
  have h3:(b != c)=true:=by simp[h]
  rw[h1,h2,h3,Bool.false_or];cases hc:r.contains c with
  | true =>
   have:¬((((r.takeWhile (· != c)).length:Nat):Int) == -1)=true:=by simp
   simp only[if_true,if_neg this,Bool.false_eq_true,if_false,List.length_cons];omega
  | false=>simp
theorem yj (p:UInt8->Bool):∀s:List UInt8,s.take (s.takeWhile p).length=s.takeWhile p
 | []=>rfl
 | b::r=>by
  rw[List.takeWhile_cons];split
  ·rw[List.length_cons,List.take_succ_cons,yj p r]
  rfl
theorem Eu (p:UInt8->Bool):∀s:List UInt8,s.drop (s.takeWhile p).length=s.dropWhile p
 | []=>rfl
 | b::r=>by
  rw[List.takeWhile_cons,List.dropWhile_cons];split
  ·rw[List.length_cons,List.drop_succ_cons,Eu p r]
  rfl
theorem Oq {c:UInt8}:∀{s:List UInt8},s.contains c=true->(s.takeWhile (· != c)).length<s.length
 | [],h=>by cases h
 | b::r,h=>by
  rw[List.takeWhile_cons];split
  ·rename_i hb;have:r.contains c=true:=by
    rw[List.contains_cons,Bool.or_eq_true]at h;rcases h with h|h
    ·have:c=b:=by simpa using h
     subst this;simp at hb
    exact h
   have:=Oq this;simp only[List.length_cons];omega
  simp
theorem Mz {c:UInt8}:∀{s:List UInt8},s.contains c=false->s.takeWhile (· != c)=s
 | [],_=>rfl
 | b::r,h=>by
  rw[List.contains_cons,Bool.or_eq_false_iff]at h;have h1:(b != c)=true:=by have:=h.1;simp at this;simp;exact λe=>this e.symm
  rw[List.takeWhile_cons,if_pos h1,Mz h.2]
theorem ru (p:UInt8->Bool):∀s:List UInt8,(s.dropWhile p).length<=s.length
 | []=>Nat.le_refl _
 | b::r=>by
  have:=ru p r;rw[List.dropWhile_cons];split<;>simp<;>omega
theorem Un (c:UInt8)(s:List UInt8):(mC c s).1.length<=s.length/\(mC c s).2.1.length<=s.length:=by
 unfold mC;split
 ·rename_i h;have h1:=Oq h;have h2:=ru (· != c) s;refine⟨by show (s.takeWhile (· != c)).length<=_;omega,?_⟩
  show ((s.dropWhile (· != c)).drop 1).length<=_
  rw[List.length_drop];omega
 simp
theorem Se (c:UInt8):∀s,splitB c s≠[]
 | []=>by simp[splitB]
 | b::r=>by
  rw[splitB];split
  ·simp
  split<;>simp
theorem rV (c:UInt8):∀s:List UInt8,splitB c s=s.takeWhile (· != c)::(if s.contains c then splitB c ((s.dropWhile (· != c)).drop 1) else [])
 | []=>rfl
 | b::r=>by
  rw[splitB,List.takeWhile_cons,List.dropWhile_cons,List.contains_cons];by_cases h:b=c
  ·subst h;simp
  have h1:(b == c)=false:=by simpa using h
  have h2:(c == b)=false:=by simpa using λe=>h e.symm
  have h3:(b != c)=true:=by simp[h]
  rw[h1,h2,h3,Bool.false_or,rV c r];rfl
theorem tL (c:UInt8):∀s:List UInt8,(splitB c s).length<=s.length+1
 | []=>by simp[splitB]
 | b::r=>by
  have h:=tL c r;rw[splitB];split
  ·simp;omega
  cases hs:splitB c r with
  | nil=>simp
  | cons p ps=>rw[hs]at h;simp at h ⊢;omega
theorem pO (c:UInt8):∀(s p:List UInt8),p∈splitB c s->p.length<=s.length
 | [],p,h=>by simp[splitB]at h;subst h;simp
 | b::r,p,h=>by
  rw[splitB]at h;split at h
  ·rcases List.mem_cons.1 h with rfl|h
   ·simp
   have:=pO c r p h;simp;omega
  cases hs:splitB c r with
  | nil=>exact absurd hs (Se c r)
  | cons q qs =>
   rw[hs]at h;rcases List.mem_cons.1 h with rfl|h
   ·have:=pO c r q (by rw[hs];simp);simp;omega
   have:=pO c r p (by rw[hs];simp[h]);simp;omega
end Cae
namespace Go.Proofs.YtemjejfpadnljaaGreatDoor
open Go.Vc Go.Proofs Go.RowKit Cae
attribute [local irreducible] cg aa ag aX runK ar Sl Vc.Own vc aQ br a7
def MB:Go.Shelf.Ren:=⟨λ| 143=>202|219=>203|217=>119|225=>85|224=>84|267=>215|266=>144|314=>223|n=>n,λ| 9=>9|3=>3|4=>4|5=>5|46=>133|146=>295|51=>168|n=>n,λ| 1=>2|n=>n⟩
theorem aFt:Go.Proofs.Lays.n143 Tryz.prog MB:={
 mixed:=by kernel_rfl
 f143:=Tryz.func202.trans (congrArg some (by kernel_rfl))
 f217:=Tryz.func119.trans (congrArg some (by kernel_rfl))
 f219:=Tryz.func203.trans (congrArg some (by kernel_rfl))
 f224:=Tryz.func84.trans (congrArg some (by kernel_rfl))
 f225:=Tryz.func85.trans (congrArg some (by kernel_rfl))
 f266:=Tryz.func144.trans (congrArg some (by kernel_rfl))
 f267:=Tryz.func215.trans (congrArg some (by kernel_rfl))
 f314:=Tryz.func223.trans (congrArg some (by kernel_rfl))
 t3:=Tryz.underlying3
 a3:=Tryz.isAgg3
 z3:=Tryz.sizeOf3
 v3:=Tryz.zeroValue3
 t4:=Tryz.underlying4
 a4:=Tryz.isAgg4
 z4:=Tryz.sizeOf4
 v4:=Tryz.zeroValue4
 t5:=Tryz.underlying5
 a5:=Tryz.isAgg5
 z5:=Tryz.sizeOf5
 v5:=Tryz.zeroValue5
 t9:=Tryz.underlying9
 a9:=Tryz.isAgg9
 z9:=Tryz.sizeOf9
 v9:=Tryz.zeroValue9
 t46:=Tryz.underlying133
 a46:=Tryz.isAgg133
 z46:=Tryz.sizeOf133
 v46:=Tryz.zeroValue133
 t51:=Tryz.underlying168
 a51:=Tryz.isAgg168
 z51:=Tryz.sizeOf168
 v51:=Tryz.zeroValue168
 t146:=Tryz.underlying295
 a146:=Tryz.isAgg295
 z146:=Tryz.sizeOf295
 v146:=Tryz.zeroValue295
 g1:=by kernel_rfl }
def Is:Go.Shelf.Ren:=⟨λ| 219=>203|217=>119|225=>85|224=>84|267=>215|266=>144|314=>223|n=>n,λ| 9=>9|3=>3|4=>4|5=>5|46=>133|146=>295|51=>168|n=>n,λ| 1=>2|n=>n⟩
theorem aAX:Go.Proofs.Lays.n219 Tryz.prog Is:={
 mixed:=by kernel_rfl
 f217:=Tryz.func119.trans (congrArg some (by kernel_rfl))
 f219:=Tryz.func203.trans (congrArg some (by kernel_rfl))
 f224:=Tryz.func84.trans (congrArg some (by kernel_rfl))
 f225:=Tryz.func85.trans (congrArg some (by kernel_rfl))
 f266:=Tryz.func144.trans (congrArg some (by kernel_rfl))
 f267:=Tryz.func215.trans (congrArg some (by kernel_rfl))
 f314:=Tryz.func223.trans (congrArg some (by kernel_rfl))
 t3:=Tryz.underlying3
 a3:=Tryz.isAgg3
 z3:=Tryz.sizeOf3
 v3:=Tryz.zeroValue3
 t4:=Tryz.underlying4
 a4:=Tryz.isAgg4
 z4:=Tryz.sizeOf4
 v4:=Tryz.zeroValue4
 t5:=Tryz.underlying5
 a5:=Tryz.isAgg5
 z5:=Tryz.sizeOf5
 v5:=Tryz.zeroValue5
 t9:=Tryz.underlying9
 a9:=Tryz.isAgg9
 z9:=Tryz.sizeOf9
 v9:=Tryz.zeroValue9
 t46:=Tryz.underlying133
 a46:=Tryz.isAgg133
 z46:=Tryz.sizeOf133
 v46:=Tryz.zeroValue133
 t51:=Tryz.underlying168
 a51:=Tryz.isAgg168
 z51:=Tryz.sizeOf168
 v51:=Tryz.zeroValue168
 t146:=Tryz.underlying295
 a146:=Tryz.isAgg295
 z146:=Tryz.sizeOf295
 v146:=Tryz.zeroValue295
 g1:=by kernel_rfl }
def Hd:Go.Shelf.Ren:=⟨λ| 103=>163|210=>181|206=>198|n=>n,λ| 9=>9|4=>4|24=>246|3=>3|n=>n,λ| n=>n⟩
theorem Z6:Go.Proofs.Lays.n103 Tryz.prog Hd:={
 mixed:=by kernel_rfl
 f103:=Tryz.func163.trans (congrArg some (by kernel_rfl))
 f206:=Tryz.func198.trans (congrArg some (by kernel_rfl))
 f210:=Tryz.func181.trans (congrArg some (by kernel_rfl))
 t3:=Tryz.underlying3
 a3:=Tryz.isAgg3
 z3:=Tryz.sizeOf3
 v3:=Tryz.zeroValue3
 t4:=Tryz.underlying4
 a4:=Tryz.isAgg4
 z4:=Tryz.sizeOf4
 v4:=Tryz.zeroValue4
 t9:=Tryz.underlying9
 a9:=Tryz.isAgg9
 z9:=Tryz.sizeOf9
 v9:=Tryz.zeroValue9
 t24:=Tryz.underlying246
 a24:=Tryz.isAgg246
 z24:=Tryz.sizeOf246
 v24:=Tryz.zeroValue246 }
def He:Go.Shelf.Ren:=⟨λ| 104=>164|211=>182|207=>199|n=>n,λ| 9=>9|4=>4|24=>246|3=>3|n=>n,λ| n=>n⟩
theorem Z7:Go.Proofs.Lays.n104 Tryz.prog He:={
 mixed:=by kernel_rfl
 f104:=Tryz.func164.trans (congrArg some (by kernel_rfl))
 f207:=Tryz.func199.trans (congrArg some (by kernel_rfl))
 f211:=Tryz.func182.trans (congrArg some (by kernel_rfl))
 t3:=Tryz.underlying3
 a3:=Tryz.isAgg3
 z3:=Tryz.sizeOf3
 v3:=Tryz.zeroValue3
 t4:=Tryz.underlying4
 a4:=Tryz.isAgg4
 z4:=Tryz.sizeOf4
 v4:=Tryz.zeroValue4
 t9:=Tryz.underlying9
 a9:=Tryz.isAgg9
 z9:=Tryz.sizeOf9
 v9:=Tryz.zeroValue9
 t24:=Tryz.underlying246
 a24:=Tryz.isAgg246
 z24:=Tryz.sizeOf246
 v24:=Tryz.zeroValue246 }
theorem aAZ (s:List UInt8)(c:UInt8)(w:World):ar Tryz.prog 202 [str s,str [c]] w λr w'=>r=.int .i64 (Lib.indexByte s c)/\w'=w:=by
 refine dL Tryz.func202 (by kernel_rfl) (by kernel_rfl) ?_;refine Calls.mono (Any.strings_Index_one aFt ⟨s.toArray⟩ c w) ?_;rintro e w' ⟨rfl,rfl⟩;exact⟨_,rfl,rfl,rfl⟩
theorem aAY (s:List UInt8)(c:UInt8)(w:World):ar Tryz.prog 203 [str s,str [c]] w λr w'=>r=.int .i64 (Lib.indexByte s c)/\w'=w:=by
 refine dL Tryz.func203 (by kernel_rfl) (by kernel_rfl) ?_;refine Calls.mono (Any.stringslite_Index_one aAX ⟨s.toArray⟩ c w) ?_;rintro e w' ⟨rfl,rfl⟩;exact⟨_,rfl,rfl,rfl⟩
theorem Uo (s p:List UInt8)(w:World):ar Tryz.prog 163 [str s,str p] w λr w'=>r=.tuple #[str (Lib.trimPrefix s p),.bool (Lib.hasPrefix s p)]/\w'=w:=by
 refine dL Tryz.func163 (by kernel_rfl) (by kernel_rfl) ?_;refine Calls.mono (Any.strings_CutPrefix Z6 ⟨s.toArray⟩ ⟨p.toArray⟩ w) ?_;rintro e w' ⟨rfl,rfl⟩;exact⟨_,rfl,rfl,rfl⟩
theorem Uq (s p:List UInt8)(hs:s.length<=9223372036854775807)(w:World):ar Tryz.prog 164 [str s,str p] w λr w'=>r=.tuple #[str (Lib.trimSuffix s p),.bool (Lib.hasSuffix s p)]/\w'=w:=by
 refine dL Tryz.func164 (by kernel_rfl) (by kernel_rfl) ?_;refine Calls.mono (Any.strings_CutSuffix Z7 ⟨s.toArray⟩ ⟨p.toArray⟩ w hs) ?_;rintro e w' ⟨rfl,rfl⟩;exact⟨_,rfl,rfl,rfl⟩
theorem aHo (s:List UInt8)(c:UInt8)(hs:s.length<=1000000000)(w:World):ar Tryz.prog 184 [str s,str [c]] w λr w'=>r=.tuple #[str (mC c s).1,str (mC c s).2.1,.bool (mC c s).2.2]/\Below w.heap.size w w':=by
 refine aE Tryz.func184 rfl (by kernel_rfl) [4,5,6] rfl ?_;push_cast -dsimp(maxSteps:=4000000) [Tryz.ntmps184];refine aA (aAY s c w) ?_;rintro _ w1 ⟨rfl,rfl⟩;rw[uR];unfold mC;cases hc:s.contains c with
 | false =>
  simp only[Bool.false_eq_true,if_false];push_cast -dsimp;exact Below.refl _ _
 | true =>
  simp only[if_true];have aj:=Oq hc;have hg:∃k,(s.takeWhile (· != c)).length=k:=⟨_,rfl⟩;obtain⟨k,hk⟩:=hg;have h1:s.takeWhile (· != c)=s.take k:=by rw[<-hk];exact(yj _ s).symm
  have h2:(s.dropWhile (· != c)).drop 1=s.drop (k+1):=by rw[<-Eu,List.drop_drop,hk]
  rw[h1,h2];rw[hk]at aj;have h3:(s.take k).length=k:=by rw[List.length_take];omega
  rw[h3];have eo:decide ((k:Int)>=0)=true:=decide_eq_true (by omega);push_cast -dsimp[eo];refine ba (λ_=>True) mixed (by kernel_rfl) trivial ?_;push_cast -dsimp;refine⟨by omega,by omega,by omega,?_,(Below.refl _ _).drew⟩;rw[show ((k:Int)+1).toNat=k+1 by omega]
theorem aHn (s:List UInt8)(c:UInt8)(hs:s.length<=1000000000)(w:World):ar Tryz.prog 166 [str s,str [c]] w λr w'=>r=.tuple #[str (mC c s).1,str (mC c s).2.1,.bool (mC c s).2.2]/\Below w.heap.size w w':=by
 refine aE Tryz.func166 rfl (by kernel_rfl) [4,5,6] rfl ?_;push_cast -dsimp(maxSteps:=4000000) [Tryz.ntmps166];refine aA (aHo s c hs w) ?_;rintro _ w1 ⟨rfl,hb⟩;push_cast -dsimp;exact hb
end Go.Proofs.YtemjejfpadnljaaGreatDoor
end
section
namespace Go.Vc
open Go.RowKit
def Byt (w:World)(b:Nat)(e:TypeId)(l:List UInt8):Prop :=
 ∃(cs:Array Value) (n:Nat),w.heap[b]?=some (.cells cs e (n,n+1))/\cs.size<=n/\∀(j:Nat) (c:UInt8),l[j]?=some c->cs[j]?=some (Value.int IntKind.u8 (c.toNat:Int))
theorem Byt.cell {w:World}{b:Nat}{e:TypeId}{l:List UInt8}(h:Byt w b e l){j:Nat}{c:UInt8}(hc:l[j]?=some c):w.cell? ⟨b,j,none⟩=some (.int .u8 (c.toNat:Int)):=by
 obtain⟨cs,n,h,_,hh⟩:=h;simp[World.cell?,h,hh j c hc]
theorem aDI {P:Program}{s d e:TypeId}{l:List UInt8}{t:Fr}{w:World}{K:VK}{Q:EP}{p}(hs:P.underlying s=some .string)(hd:P.underlying d=some (.slice e))(he:P.underlying e=some (.int .u8))
  (kk:∀c w',l.length<=c->Byt w' w.heap.size e l->Below w.heap.size w w'->K (.slice (some ⟨w.heap.size,0,none⟩) l.length c) w'):ag P (convert s d (str l)) t w K Q p:=by
 have hr:=run_bytes_of_string (P:=P) w s d e ⟨l.toArray⟩ hs hd he;have D4:ByteArray.size ⟨l.toArray⟩=l.length:=by simp[ByteArray.size]
 refine ff hr ?_;rw[D4];refine kk _ _ (grownCap_ge _ _ _ _) ⟨bytesRow ⟨l.toArray⟩ (grownCap w l.length 0 e),(bytesRow ⟨l.toArray⟩ (grownCap w l.length 0 e)).size,?_,Nat.le_refl _,λj c hj=>?_⟩ ((Below.refl w.heap.size w).drew.alloc (Nat.le_refl _) _)
 ·exact heap_alloc_new w.drew _
 have aj:=(List.getElem?_eq_some_iff.1 hj).1
 have:=bytesRow_at ⟨l.toArray⟩ (grownCap w l.length 0 e) j (by simpa using aj);rw[this];have:l[j]?=some l[j]:=List.getElem?_eq_getElem aj;rw[this]at hj;cases hj;simp
end Go.Vc
end
section
namespace Cae
def dv (b:UInt8):Nat:=if b.toNat<=57 then b.toNat-48 else b.toNat-87
def mN (b:UInt8):Bool:=(decide (48<=b.toNat) && decide (b.toNat<=57)) || (decide (97<=b.toNat) && decide (b.toNat<=102))
def iS (l:List UInt8):Nat:=l.foldl (λm b=>16*m+dv b) 0
theorem rE:∀d:Nat,d<16->mN (P0 d)=true/\dv (P0 d)=d:=by decide
theorem IZ:∀(f n:Nat) (acc:List UInt8),n<16 ^ (f+1)->(∀b∈acc,mN b=true)->∀b∈qM f n acc,mN b=true
 | 0,n,acc,hn,h=>by
  rw[qM];intro b hb;rcases List.mem_cons.1 hb with rfl|hb
  ·exact(rE n (by omega)).1
  exact h b hb
 | f+1,n,acc,hn,h=>by
  rw[qM];split
  ·intro b hb;rcases List.mem_cons.1 hb with rfl|hb
   ·exact(rE n (by omega)).1
   exact h b hb
  refine IZ f (n / 16) _ (Nat.div_lt_of_lt_mul (by rw[Nat.mul_comm,<-Nat.pow_succ];exact hn)) ?_;intro b hb;rcases List.mem_cons.1 hb with rfl|hb
  ·exact(rE (n % 16) (by omega)).1
  exact h b hb
theorem DR (l:List UInt8):∀m:Nat,l.foldl (λm b=>16*m+dv b) m=16 ^ l.length*m+iS l:=by
 unfold iS;induction l with
 | nil=>intro m;simp
 | cons b l ih =>
  intro m;rw[List.foldl_cons,List.foldl_cons,ih,ih (16*0+dv b),List.length_cons,Nat.pow_succ,Nat.mul_add];have:16 ^ l.length*(16*m)=16 ^ l.length*16*m:=by rw[Nat.mul_assoc]
  rw[this];simp;omega
theorem vj (b:UInt8)(l:List UInt8):iS (b::l)=16 ^ l.length*dv b+iS l:=by
 have:=DR l (16*0+dv b);unfold iS at this ⊢
 rw[List.foldl_cons,this];simp
theorem I1:∀(f n:Nat) (acc:List UInt8),n<16 ^ (f+1)->iS (qM f n acc)=16 ^ acc.length*n+iS acc
 | 0,n,acc,hn=>by rw[qM,vj,(rE n (by omega)).2]
 | f+1,n,acc,hn=>by
  rw[qM];split
  ·rw[vj,(rE n (by omega)).2]
  rw[I1 f (n / 16) _ (Nat.div_lt_of_lt_mul (by rw[Nat.mul_comm,<-Nat.pow_succ];exact hn)),vj,(rE (n % 16) (by omega)).2,List.length_cons,Nat.pow_succ];have h1:=Nat.div_add_mod n 16;have h2:16 ^ acc.length*n=16 ^ acc.length*16*(n / 16)+16 ^ acc.length*(n % 16):=by
   rw[Nat.mul_assoc,<-Nat.mul_add,h1]
  rw[h2];omega
theorem fj {n:Nat}(hn:n<4294967296):∀b∈gj n,mN b=true:=IZ 8 n [] (by omega) (λb h=>by cases h)
theorem jT {n:Nat}(hn:n<4294967296):iS (gj n)=n:=by
 unfold gj;rw[I1 8 n [] (by omega)];simp[iS]
theorem Nf:∀(f n:Nat) (acc:List UInt8),qM f n acc≠[]
 | 0,n,acc=>by rw[qM];simp
 | f+1,n,acc=>by
  rw[qM];split
  ·simp
  exact Nf f _ _
theorem y6 (n:Nat):gj n≠[]:=Nf 8 n []
theorem DV (l:List UInt8)(b:UInt8):iS (l++[b])=16*iS l+dv b:=by
 unfold iS;rw[List.foldl_append];rfl
theorem DW (l:List UInt8)(i:Nat):iS (l.take i)<=iS l:=by
 have e:=DR (l.drop i) (iS (l.take i));have h0:iS l=16 ^ (l.drop i).length*iS (l.take i)+iS (l.drop i):=by
  rw[<-e]
  conv=>lhs;rw[<-List.take_append_drop i l]
  unfold iS;rw[List.foldl_append]
 have h1:1<=16 ^ (l.drop i).length:=Nat.pos_of_ne_zero (by simp);rw[h0];exact Nat.le_trans (Nat.le_mul_of_pos_left (iS (l.take i)) h1) (Nat.le_add_right _ _)
end Cae
namespace Go.Vc
open Go.RowKit
theorem aDX {L:VP}{other:Prop}(ty v ty' v' c)(p):cF 1 c .eql (.iface ty v) (.iface ty' v') L other p=other:=(rfl)
theorem aBw {L:VP}{other:Prop}(ty v ty' v' c)(p):cF 1 c .neq (.iface ty v) (.iface ty' v') L other p=other:=(rfl)
attribute [push_cast] aDX aBw
theorem lk {P:Program}{o:Oper}{t:Fr}{w:World}{K:VK}{Q:EP}{ty:TypeId}{x y:Operand}{z:TypeId}{te:TypeId}{k q:IntKind}{a b:Int}{ms:Array (String×TypeId)}(ho:o.op=.binOp .neq ty x y z)(hx:ev t x=.iface te (.int k a))(hy:ev t y=.iface te (.int k b))
  (ht:P.underlying ty=some (.interface ms)) (hc:(P.info? te).map (·.comparable)=some true) (he:P.underlying te=some (.int q)) (kk:K (.bool (!(a == b))) w):runK P o t w K Q .mk:=by
 refine fq (s:=do eqGuard .neq ty x y (ev t x) (ev t y);binOp .neq ty (ev t x) (ev t y)) (by unfold execOp;simp only[ho]) (ff (w':=w) ?_ kk);rw[Sem.run_bind,nU (.inl (by rw[hx];simp)) (by intro c;rw[hx];simp)]
 show (binOp .neq ty (ev t x) (ev t y)).run P w=_
 rw[hx,hy];exact Lib.run_neq_iface_int w a b ht hc he
end Go.Vc
namespace Go.Proofs.YtemjejfpadnljaaGreatDoor
open Go.Vc Go.Proofs Go.RowKit Cae
attribute [local irreducible] cg aa ag aX runK ar Sl Vc.Own vc aQ br a7
theorem aJ1:∀b:Nat,b<256->0<=cD .or .u8 (b:Int) 32/\cD .or .u8 (b:Int) 32<=255/\(97<=b->b<=102->cD .or .u8 (b:Int) 32=b)/\(b<48->cD .or .u8 (b:Int) 32<97)/\(b=95->cD .or .u8 (b:Int) 32=127):=by decide +kernel
theorem lS (b:Int)(w:World):ar Tryz.prog 216 [.int .u8 b] w λr w'=>r=.int .u8 (cD .or .u8 b 32)/\w'=w:=by
 refine aE Tryz.func216 rfl (by kernel_rfl) [2] rfl ?_;push_cast -dsimp(maxSteps:=4000000) [Tryz.ntmps216]
def aHg (e:Value):Prop:=e=.nilIface\/e=.iface 276 (.int .i64 1)\/e=.iface 276 (.int .i64 2)
theorem qj (bits:Int)(kD:bits=32\/bits=40)(s:List UInt8)(hs:s.length<=1000000000)(w:World):ar Tryz.prog 204 [str s,.int .i64 16,.int .i64 bits] w λr w'=>(∃(v:Nat) (e:Value),r=.tuple #[.int .u64 (v:Int),e]/\v<1099511627776/\aHg e/\(∀n<4294967296,s=gj n->v=n/\e=.nilIface))/\Below w.heap.size w w':=by
 refine aE Tryz.func204 rfl (by kernel_rfl) [6,7] rfl ?_;push_cast -dsimp(maxSteps:=4000000) [Tryz.ntmps204];by_cases cW:s=[]
 ·subst cW;have e0:decide (([]:List UInt8)=[])=true:=rfl;push_cast -dsimp(maxSteps:=4000000) [e0];refine⟨⟨0,_,rfl,by omega,.inr (.inr rfl),λn _ h=>absurd h.symm (y6 n)⟩,Below.refl _ _⟩
 have ef:decide False=false:=rfl;have emx:∃mx:Nat,IntKind.u64.wrap (IntKind.u64.wrap (1*2 ^ min (IntKind.u64.wrap bits).toNat IntKind.u64.bits)-1)=(mx:Int)/\4294967295<=mx/\mx<1099511627776:=by
  rcases kD with rfl|rfl
  ·exact⟨4294967295,by decide,by omega,by omega⟩
  exact⟨1099511627775,by decide,by omega,by omega⟩
 obtain⟨mx,emx,aTI,aTJ⟩:=emx;push_cast -dsimp(maxSteps:=4000000) [ef];refine⟨λh=>absurd h cW,λ_=>⟨λh=>by omega,λ_=>⟨λ_=>⟨λh=>by omega,λ_=>⟨by rcases kD with rfl|rfl<;>decide,?_⟩⟩,λh=>by omega⟩⟩⟩;rw[emx];refine aDI (e:=5) (by kernel_rfl) (by kernel_rfl) (by kernel_rfl) ?_;intro cap w1 aS3 oT gU;have ph:=gU.size;push_cast -dsimp(maxSteps:=4000000) [ef];refine aK [6,7,12,13,15,16,17,101,102,103,104,105,106,107,108,109,110,111,112,113,114,115,116,117,118,119,120,121,122,123,124,125,126,127,128,129,130,131,132,133,134,135,136,137,138,139,140,141,142,143,144,145,146,147,148,149,150,151,152,153,154,155,156,157,158,159,160,161,162,163] (λz wx=>∃(i m:Nat),z 101=.int .i64 (i:Int)/\z 13=.int .u64 (m:Int)/\z 12=.bool false/\i<=s.length/\m<=mx/\((∀b∈s,mN b=true)->iS s<4294967296->m=iS (s.take i))/\Below w.heap.size w wx/\Byt wx w.heap.size 5 s) (λz _=>s.length-(intOf (z 101)).toNat) ?_ ?_
 ·exact⟨0,0,rfl,rfl,rfl,Nat.zero_le _,by omega,λ_ _=>rfl,gU,oT⟩
 intro z wx hI;obtain⟨i,m,aD7,zm,CU,hi,hm,hv,eW,ns⟩:=hI;push_cast -dsimp(maxSteps:=4000000) [aD7,zm,CU,ef];refine⟨λaj=>?_,λeo=>?_⟩
 ·have hg:=ah (l:=s) (i:=i) (by omega);obtain⟨x,hx,mm,hxd,hxt⟩:=hg;have cx:=ns.cell hx;have ma:x.toNat<256:=x.toNat_lt;have sd:=aJ1 x.toNat ma;have Ch:(∀b∈s,mN b=true)->mN x=true:=λh=>h x mm;have WH:dv x=if x.toNat<=57 then x.toNat-48 else x.toNat-87:=rfl
  have I9:mN x=((decide (48<=x.toNat) && decide (x.toNat<=57)) || (decide (97<=x.toNat) && decide (x.toNat<=102))):=rfl;have CA:∃b,x.toNat=b:=⟨_,rfl⟩;obtain⟨b,hb⟩:=CA;rw[hb]at cx ma sd WH I9;have TN:∃l,cD .or .u8 (b:Int) 32=l:=⟨_,rfl⟩;obtain⟨l,hl⟩:=TN;rw[hl]at sd;have TN:∃lo:Nat,l=(lo:Int):=⟨l.toNat,by omega⟩;obtain⟨lo,AF⟩:=TN;subst AF;have re:decide ((m:Int)>=1152921504606846976)=false:=decide_eq_false (by omega);have e16:IntKind.u8.wrap 16=16:=by decide
  have Zb:IntKind.u64.wrap 16=16:=by decide
  have hgk:∃k,16*m=k:=⟨_,rfl⟩;obtain⟨k,hk⟩:=hgk;have ek:IntKind.u64.wrap ((m:Int)*16)=(k:Int):=by
   rw[show (m:Int)*16=(k:Int) by omega,fQ,Nat.mod_eq_of_lt (by omega)]
  refine⟨by omega,?_⟩;obtain⟨K9,xB,od,Nn,CE⟩:=sd;by_cases hA:48<=b/\b<=57
  ·have Pl:decide ((b:Int)=95)=false:=decide_eq_false (by omega);have e1:decide (48<=(b:Int))=true:=decide_eq_true (by omega);have e2:decide ((b:Int)<=57)=true:=decide_eq_true (by omega);have TM:∃dn:Nat,b-48=dn:=⟨_,rfl⟩;obtain⟨dn,aI0⟩:=TM;have edn:IntKind.u8.wrap ((b:Int)-48)=(dn:Int):=by
    rw[show (b:Int)-48=(dn:Int) by omega,fR,Nat.mod_eq_of_lt (by omega)]
   have hdn:mN x=true->dn=dv x:=λ_=>by rw[WH,if_pos hA.2];exact aI0.symm
   by_cases hd:dn<16
   ·have ed:decide ((dn:Int)>=16)=false:=decide_eq_false (by omega);have Ux:IntKind.u64.wrap (dn:Int)=(dn:Int):=by rw[fQ,Nat.mod_eq_of_lt (by omega)]
    have hgq:∃q,k+dn=q:=⟨_,rfl⟩;obtain⟨q,hq⟩:=hgq;have eq:IntKind.u64.wrap ((k:Int)+(dn:Int))=(q:Int):=by
     rw[show (k:Int)+(dn:Int)=(q:Int) by omega,fQ,Nat.mod_eq_of_lt (by omega)]
    have elt:decide ((q:Int)<(k:Int))=false:=decide_eq_false (by omega);have No:(∀b∈s,mN b=true)->iS s<4294967296->q=iS (s.take (i+1)):=λh1 h2=>by
     have:=hv h1 h2;have h3:=hdn (Ch h1);rw[hxt,DV,<-this,<-h3];omega
    by_cases hr:q<=mx
    ·have LP:decide ((q:Int)>(mx:Int))=false:=decide_eq_false (by omega);push_cast -dsimp(maxSteps:=4000000) [cx,ed,re,e16,Zb,ek,Ux,eq,elt,LP,ef,Pl,e1,e2,edn];exact⟨⟨by omega,by omega⟩,⟨i+1,q,rfl,rfl,by omega,hr,No,eW,ns⟩,by rw[aD7];simp only[intOf];omega⟩
    have LP:decide ((q:Int)>(mx:Int))=true:=decide_eq_true (by omega);push_cast -dsimp(maxSteps:=4000000) [cx,ed,re,e16,Zb,ek,Ux,eq,elt,LP,ef,Pl,e1,e2,edn];refine⟨⟨mx,_,rfl,by omega,.inr (.inl rfl),λn hn h=>?_⟩,eW⟩;have h1:=No (by rw[h];exact fj hn) (by rw[h,jT hn];exact hn);have h2:=DW s (i+1);have h3:=jT hn;rw[<-h]at h3;omega
   have ed:decide ((dn:Int)>=16)=true:=decide_eq_true (by omega);push_cast -dsimp(maxSteps:=4000000) [cx,ed,e16,ef,Pl,e1,e2,edn];refine⟨⟨0,_,rfl,by omega,.inr (.inr rfl),λn hn h=>?_⟩,eW⟩;have h3:=hdn (Ch (by rw[h];exact fj hn));have h4:=Ch (by rw[h];exact fj hn);rw[I9,Bool.or_eq_true,Bool.and_eq_true,Bool.and_eq_true,decide_eq_true_eq,decide_eq_true_eq,decide_eq_true_eq,decide_eq_true_eq]at h4;rw[WH]at h3;split at h3<;>omega
  by_cases hB:97<=lo/\lo<=122
  ·have Pl:decide ((b:Int)=95)=false:=decide_eq_false (λh=>by have:=CE (by omega);omega);have e1:decide (48<=(b:Int))=true:=decide_eq_true (Classical.byContradiction λh=>by have:=Nn (by omega);omega);have e2:decide ((b:Int)<=57)=false:=decide_eq_false (λh=>hA ⟨Classical.byContradiction λh=>by have:=Nn (by omega);omega,by omega⟩);have e3:decide (97<=(lo:Int))=true:=decide_eq_true (by omega);have e4:decide ((lo:Int)<=122)=true:=decide_eq_true (by omega);have TM:∃dn:Nat,lo-87=dn:=⟨_,rfl⟩;obtain⟨dn,aI0⟩:=TM;have aNe:∃l2:Nat,lo-97=l2:=⟨_,rfl⟩;obtain⟨l2,aTt⟩:=aNe;have edn:IntKind.u8.wrap ((lo:Int)-97)=(l2:Int):=by
    rw[show (lo:Int)-97=(l2:Int) by omega,fR,Nat.mod_eq_of_lt (by omega)]
   have aDV:IntKind.u8.wrap ((l2:Int)+10)=(dn:Int):=by
    rw[show (l2:Int)+10=(dn:Int) by omega,fR,Nat.mod_eq_of_lt (by omega)]
   have hdn:mN x=true->dn=dv x:=λh=>by
    rw[I9,Bool.or_eq_true,Bool.and_eq_true,Bool.and_eq_true,decide_eq_true_eq,decide_eq_true_eq,decide_eq_true_eq,decide_eq_true_eq]at h;have h5:=od (by omega) (by omega);rw[WH,if_neg (by omega)];omega
   push_cast -dsimp(maxSteps:=4000000) [cx,Pl,e1,e2,ef];refine aA (lS (b:Int) wx) ?_;rintro _ w2 ⟨rfl,rfl⟩;rw[hl];push_cast -dsimp(maxSteps:=4000000) [e3,ef];refine aA (lS (b:Int) w2) ?_;rintro _ w3 ⟨rfl,rfl⟩;rw[hl];push_cast -dsimp(maxSteps:=4000000) [e4,ef];refine aA (lS (b:Int) w3) ?_;rintro _ w4 ⟨rfl,rfl⟩;rw[hl];by_cases hd:dn<16
   ·have ed:decide ((dn:Int)>=16)=false:=decide_eq_false (by omega);have Ux:IntKind.u64.wrap (dn:Int)=(dn:Int):=by rw[fQ,Nat.mod_eq_of_lt (by omega)]
    have hgq:∃q,k+dn=q:=⟨_,rfl⟩;obtain⟨q,hq⟩:=hgq;have eq:IntKind.u64.wrap ((k:Int)+(dn:Int))=(q:Int):=by
     rw[show (k:Int)+(dn:Int)=(q:Int) by omega,fQ,Nat.mod_eq_of_lt (by omega)]
    have elt:decide ((q:Int)<(k:Int))=false:=decide_eq_false (by omega);have No:(∀b∈s,mN b=true)->iS s<4294967296->q=iS (s.take (i+1)):=λh1 h2=>by
     have:=hv h1 h2;have h3:=hdn (Ch h1);rw[hxt,DV,<-this,<-h3];omega
    by_cases hr:q<=mx
    ·have LP:decide ((q:Int)>(mx:Int))=false:=decide_eq_false (by omega);push_cast -dsimp(maxSteps:=4000000) [cx,ed,re,e16,Zb,ek,Ux,eq,elt,LP,ef,edn,aDV];exact⟨⟨by omega,by omega⟩,⟨i+1,q,rfl,rfl,by omega,hr,No,eW,ns⟩,by rw[aD7];simp only[intOf];omega⟩
    have LP:decide ((q:Int)>(mx:Int))=true:=decide_eq_true (by omega);push_cast -dsimp(maxSteps:=4000000) [cx,ed,re,e16,Zb,ek,Ux,eq,elt,LP,ef,edn,aDV];refine⟨⟨mx,_,rfl,by omega,.inr (.inl rfl),λn hn h=>?_⟩,eW⟩;have h1:=No (by rw[h];exact fj hn) (by rw[h,jT hn];exact hn);have h2:=DW s (i+1);have h3:=jT hn;rw[<-h]at h3;omega
   have ed:decide ((dn:Int)>=16)=true:=decide_eq_true (by omega);push_cast -dsimp(maxSteps:=4000000) [cx,ed,e16,ef,edn,aDV];refine⟨⟨0,_,rfl,by omega,.inr (.inr rfl),λn hn h=>?_⟩,eW⟩;have h3:=hdn (Ch (by rw[h];exact fj hn));have h4:=Ch (by rw[h];exact fj hn);rw[I9,Bool.or_eq_true,Bool.and_eq_true,Bool.and_eq_true,decide_eq_true_eq,decide_eq_true_eq,decide_eq_true_eq,decide_eq_true_eq]at h4;rw[WH]at h3;split at h3<;>omega
  by_cases h95:b=95
  ·have:=CE h95;have Pl:decide ((b:Int)=95)=true:=decide_eq_true (by omega);have e1:decide (48<=(b:Int))=true:=decide_eq_true (by omega);have e2:decide ((b:Int)<=57)=false:=decide_eq_false (by omega);have e3:decide (97<=(lo:Int))=true:=decide_eq_true (by omega);have e4:decide ((lo:Int)<=122)=false:=decide_eq_false (by omega);push_cast -dsimp(maxSteps:=4000000) [cx,Pl,e1,e2,ef];refine aA (lS (b:Int) wx) ?_;rintro _ w2 ⟨rfl,rfl⟩;rw[hl];push_cast -dsimp(maxSteps:=4000000) [e3,ef];refine aA (lS (b:Int) w2) ?_;rintro _ w3 ⟨rfl,rfl⟩;rw[hl];push_cast -dsimp(maxSteps:=4000000) [e4,ef];refine⟨⟨0,_,rfl,by omega,.inr (.inr rfl),λn hn h=>?_⟩,eW⟩
   have:=Ch (by rw[h];exact fj hn);rw[I9,Bool.or_eq_true,Bool.and_eq_true,Bool.and_eq_true,decide_eq_true_eq,decide_eq_true_eq,decide_eq_true_eq,decide_eq_true_eq]at this;omega
  rcases Nat.lt_or_ge b 48 with h48|h48
  ·have:=Nn h48;have Pl:decide ((b:Int)=95)=false:=decide_eq_false (by omega);have e1:decide (48<=(b:Int))=false:=decide_eq_false (by omega);have e2:decide ((b:Int)<=57)=true:=decide_eq_true (by omega);have e3:decide (97<=(lo:Int))=false:=decide_eq_false (by omega);push_cast -dsimp(maxSteps:=4000000) [cx,Pl,e1,e2,ef];refine aA (lS (b:Int) wx) ?_;rintro _ w2 ⟨rfl,rfl⟩;rw[hl];push_cast -dsimp(maxSteps:=4000000) [e3,ef];refine⟨⟨0,_,rfl,by omega,.inr (.inr rfl),λn hn h=>?_⟩,eW⟩
   have:=Ch (by rw[h];exact fj hn);rw[I9,Bool.or_eq_true,Bool.and_eq_true,Bool.and_eq_true,decide_eq_true_eq,decide_eq_true_eq,decide_eq_true_eq,decide_eq_true_eq]at this;omega
  rcases Nat.lt_or_ge lo 97 with h97|h97
  ·skip;have Pl:decide ((b:Int)=95)=false:=decide_eq_false (by omega);have e1:decide (48<=(b:Int))=true:=decide_eq_true (by omega);have e2:decide ((b:Int)<=57)=false:=decide_eq_false (by omega);have e3:decide (97<=(lo:Int))=false:=decide_eq_false (by omega);push_cast -dsimp(maxSteps:=4000000) [cx,Pl,e1,e2,ef];refine aA (lS (b:Int) wx) ?_;rintro _ w2 ⟨rfl,rfl⟩;rw[hl];push_cast -dsimp(maxSteps:=4000000) [e3,ef];refine⟨⟨0,_,rfl,by omega,.inr (.inr rfl),λn hn h=>?_⟩,eW⟩
   have:=Ch (by rw[h];exact fj hn);rw[I9,Bool.or_eq_true,Bool.and_eq_true,Bool.and_eq_true,decide_eq_true_eq,decide_eq_true_eq,decide_eq_true_eq,decide_eq_true_eq]at this;omega
  skip;have Pl:decide ((b:Int)=95)=false:=decide_eq_false (by omega);have e1:decide (48<=(b:Int))=true:=decide_eq_true (by omega);have e2:decide ((b:Int)<=57)=false:=decide_eq_false (by omega);have e3:decide (97<=(lo:Int))=true:=decide_eq_true (by omega);have e4:decide ((lo:Int)<=122)=false:=decide_eq_false (by omega);push_cast -dsimp(maxSteps:=4000000) [cx,Pl,e1,e2,ef];refine aA (lS (b:Int) wx) ?_;rintro _ w2 ⟨rfl,rfl⟩;rw[hl];push_cast -dsimp(maxSteps:=4000000) [e3,ef];refine aA (lS (b:Int) w2) ?_;rintro _ w3 ⟨rfl,rfl⟩;rw[hl];push_cast -dsimp(maxSteps:=4000000) [e4,ef];refine⟨⟨0,_,rfl,by omega,.inr (.inr rfl),λn hn h=>?_⟩,eW⟩
  have:=Ch (by rw[h];exact fj hn);rw[I9,Bool.or_eq_true,Bool.and_eq_true,Bool.and_eq_true,decide_eq_true_eq,decide_eq_true_eq,decide_eq_true_eq,decide_eq_true_eq]at this;omega
 refine⟨⟨m,_,rfl,by omega,.inl rfl,λn hn h=>⟨?_,rfl⟩⟩,eW⟩
 have:=hv (by rw[h];exact fj hn) (by rw[h,jT hn];exact hn);rw[this,List.take_of_length_le (by omega),h,jT hn]
end Go.Proofs.YtemjejfpadnljaaGreatDoor
end
section
namespace Cae
def dF (s:List UInt8)(l:List Rg):Prop:=aO (-2) l=true/\gT l=s
theorem GB {n:Nat}(hn:n<4294967296){c:UInt8}(hc:mN c=false):(gj n).contains c=false:=by
 cases h:(gj n).contains c with
 | false=>rfl
 | true =>
  have hm:c∈gj n:=by simpa using h
  have:=fj hn c hm;rw[hc]at this;cases this
theorem o6 (a b:List UInt8)(c:UInt8):(a++b).contains c=(a.contains c || b.contains c):=by
 induction a with
 | nil=>simp
 | cons x a ih=>rw[List.cons_append,List.contains_cons,List.contains_cons,ih,Bool.or_assoc]
theorem aF4 {r:Rg}(h0:0<=r.1)(h1:r.1<4294967296)(h2:r.2<4294967296):(rm r).contains 32=false:=by
 unfold rm;rw[o6,GB (by omega) (by rfl)];split
 ·rw[List.contains_cons,GB (by omega) (by rfl)];rfl
 rfl
theorem aF3 (r:Rg):rm r≠[]:=by
 unfold rm;intro h;exact y6 _ (List.append_eq_nil_iff.1 h).1
theorem B0 {c:UInt8}:∀{a b:List UInt8},a.contains c=false->(a++c::b).takeWhile (· != c)=a/\(a++c::b).dropWhile (· != c)=c::b
 | [],b,_=>by simp
 | x::a,b,h=>by
  rw[List.contains_cons,Bool.or_eq_false_iff]at h;have h1:(x != c)=true:=by have:=h.1;simp at this;simp;exact λe=>this e.symm
  have ih:=B0 (b:=b) h.2;rw[List.cons_append,List.takeWhile_cons,List.dropWhile_cons,if_pos h1,if_pos h1,ih.1,ih.2];exact⟨rfl,rfl⟩
theorem YY {c:UInt8}{a:List UInt8}(h:a.contains c=false):splitB c a=[a]:=by
 rw[rV,h,Mz h];rfl
theorem Sf {c:UInt8}{a b:List UInt8}(h:a.contains c=false):splitB c (a++c::b)=a::splitB c b:=by
 rw[rV,(B0 h).1,(B0 h).2];have:(a++c::b).contains c=true:=by rw[o6];simp
 rw[if_pos this];rfl
theorem BS {c:UInt8}:∀(x:List UInt8) (l:List (List UInt8)),(∀p∈x::l,p.contains c=false)->splitB c (Go.Lib.join (x::l) [c])=x::l
 | x,[],h=>by rw[Go.Lib.join_one];exact YY (h x (by simp))
 | x,y::l,h=>by
  have e:Go.Lib.join (x::y::l) [c]=x++c::Go.Lib.join (y::l) [c]:=by
   rw[Go.Lib.join_cons,Go.Lib.join_cons];simp[Go.Lib.joinTail]
  rw[e,Sf (h x (by simp)),BS y l (λp hp=>h p (List.mem_cons_of_mem _ hp))]
theorem LN {r:Rg}(h0:0<=r.1)(h1:r.1<4294967296)(h2:r.2<4294967296)(aj:r.1<r.2):mC 45 (rm r)=(gj r.1.toNat,gj r.2.toNat,true):=by
 have hn:=GB (n:=r.1.toNat) (c:=45) (by omega) (by rfl);have e:rm r=gj r.1.toNat++45::gj r.2.toNat:=by unfold rm;rw[if_pos aj]
 unfold mC;rw[e,(B0 hn).1,(B0 hn).2,o6];simp
theorem Er {r:Rg}(h0:0<=r.1)(h1:r.1<4294967296)(aj:¬r.1<r.2):mC 45 (rm r)=(gj r.1.toNat,[],false):=by
 have hn:=GB (n:=r.1.toNat) (c:=45) (by omega) (by rfl);have e:rm r=gj r.1.toNat:=by unfold rm;rw[if_neg aj,List.append_nil]
 unfold mC;rw[e,hn];rfl
theorem rM:∀{s:List Rg} {a:Int},-2<=a->aO a s=true->∀r∈s,0<=r.1/\r.1<=r.2/\r.2<=1114111
 | [],_,_,_=>λr hr=>by cases hr
 | q::s,a,ha,h=>by
  rw[bo]at h;intro r hr;rcases List.mem_cons.1 hr with rfl|hr
  ·omega
  exact rM (by omega) h.2 r hr
def kl (l:List Rg):List UInt8:=Go.Lib.join (l.map rm) [32]
theorem vQ {l:List Rg}(h:kl l=[]):l=[]:=by
 cases l with
 | nil=>rfl
 | cons r l =>
  unfold kl at h;rw[List.map_cons,Go.Lib.join_cons]at h;exact absurd (List.append_eq_nil_iff.1 h).1 (aF3 r)
theorem tM {l:List Rg}(h:aO (-2) l=true)(cW:kl l≠[]):splitB 32 (kl l)=l.map rm:=by
 cases l with
 | nil=>exact absurd rfl cW
 | cons r l =>
  unfold kl;rw[List.map_cons];refine BS _ _ λp hp=>?_;rw[<-List.map_cons]at hp;obtain⟨q,hq,rfl⟩:=List.mem_map.1 hp
  have:=rM (by omega) h q hq;exact aF4 (by omega) (by omega) (by omega)
theorem rQ {s:List UInt8}{l:List Rg}(h:dF s l):Go.Lib.hasPrefix s [91]=true/\Go.Lib.hasSuffix (Go.Lib.trimPrefix s [91]) [93]=true/\Go.Lib.trimSuffix (Go.Lib.trimPrefix s [91]) [93]=kl l:=by
 obtain⟨hr,rfl⟩:=h;have h1:Go.Lib.hasPrefix (gT l) [91]=true:=by simp[Go.Lib.hasPrefix,gT]
 have h2:Go.Lib.trimPrefix (gT l) [91]=kl l++[93]:=by
  unfold Go.Lib.trimPrefix;rw[h1];rfl
 have h3:Go.Lib.hasSuffix (kl l++[93]) [93]=true:=by
  unfold Go.Lib.hasSuffix;rw[List.isSuffixOf_iff_suffix];exact⟨kl l,rfl⟩
 rw[h2];refine⟨h1,h3,?_⟩;unfold Go.Lib.trimSuffix;rw[h3,if_pos rfl];simp
theorem x6 {body x:List UInt8}{pre:List (List UInt8)}{l:List Rg}(h:aO (-2) l=true)(hb:body=kl l)(cW:body≠[])(hp:pre++[x] <+: splitB 32 body):∃r,l[pre.length]?=some r/\x=rm r/\0<=r.1/\r.1<=r.2/\r.2<=1114111:=by
 subst hb;rw[tM h cW]at hp;obtain⟨rest,hr⟩:=hp;have h1:(l.map rm)[pre.length]?=some x:=by rw[<-hr,List.append_assoc];simp
 rw[List.getElem?_map]at h1;cases hl:l[pre.length]? with
 | none=>rw[hl]at h1;cases h1
 | some r =>
  rw[hl]at h1;cases h1;exact⟨r,rfl,rfl,rM (by omega) h r (List.mem_of_getElem? hl)⟩
structure Tok where
 kind:Nat
 text:List UInt8
 pos:Nat
 deriving DecidableEq
inductive aw where
 | lit (pos:Nat) (s:List Rg)
 | ref (pos:Nat) (name:List UInt8)
 | not (pos:Nat) (l:aw)
 | bin (code:Nat) (pos:Nat) (l r:aw)
inductive aG where
 | one (k:aw)
 | any
 | gg
 | cat (l:List aG)
 | alt (l:List aG)
 | many (x:aG) (lo hi:Int)
structure dG where
 pos:Nat
 brk:Bool
 before:aG
 after:aG
structure fB where
 name:List UInt8
 pos:Nat
 kind:aw
structure dY where
 cN:List fB
 rules:List dG
 dD:Bool
def jX (c:UInt8):Bool:=decide (97<=c.toNat) && decide (c.toNat<=122)
def eL (c:UInt8):Bool:=decide (48<=c.toNat) && decide (c.toNat<=57)
def JH:List UInt8:=[61,59,58,124,38,45,126,40,41,46,42,43,63,123,125,44,36]
def jm (f:UInt8->Bool)(s:List UInt8):Nat:=(s.takeWhile f).length
def gn (s:List UInt8):Nat×Nat :=
 let c:=s.headD 0
 if jX c then (1,jm (λc=>jX c || eL c) s)
 else if eL c then (2,jm eL s)
 else if c=91 then (3,if s.contains 93 then jm (· != 93) s+1 else 0)
 else if JH.contains c then (4,1)
 else (4,0)
def lY:Nat->Nat->List UInt8->List Tok->Except (Nat×Nat) (List Tok)
 | 0,i,s,acc=>.error (0,0)
 | n+1,i,[],acc=>.ok (acc++[⟨5,[],i⟩])
 | n+1,i,c::r,acc =>
  if c=32\/c=10 then lY n (i+1) r acc
  else if c=35 then lY n (i+jm (· != 10) (c::r)) ((c::r).drop (jm (· != 10) (c::r))) acc
  else if (gn (c::r)).2=0 then .error (3,i)
  else if acc.length=500 then .error (4,i)
  else lY n (i+(gn (c::r)).2) ((c::r).drop (gn (c::r)).2) (acc++[⟨(gn (c::r)).1,(c::r).take (gn (c::r)).2,i⟩])
def Sk (s:List UInt8):Except (Nat×Nat) (List Tok):=lY (s.length+1) 0 s []
def Gr (s:List UInt8):Option (List Rg) :=
 let body:=(s.drop 1).dropLast
 let l:List Rg:=if body=[] then [] else (splitB 32 body).map λp=>(((iS (mC 45 p).1:Nat):Int),if (mC 45 p).2.2 then ((iS (mC 45 p).2.1:Nat):Int) else ((iS (mC 45 p).1:Nat):Int))
 if aO (-2) l && gT l == s then some l else none
abbrev Pa (α:Type):=List Tok->Except (Nat×Nat) (α×List Tok)
def hd (l:List Tok):Tok:=l.headD ⟨5,[],0⟩
def pb {α β:Type}(p:Pa α)(q:α->Pa β):Pa β:=λl=>match p l with
 | .error e=>.error e
 | .ok (x,l')=>q x l'
def pr {α:Type}(x:α):Pa α:=λl=>.ok (x,l)
def dr {α:Type}(e:Nat):Pa α:=λl=>.error (e,(hd l).pos)
def ax {α:Type}(c:List Tok->Bool)(p q:Pa α):Pa α:=λl=>if c l then p l else q l
def dX:Pa Tok:=λl=>.ok (hd l,l)
def cK:Pa Unit:=λl=>match l with
 | []=>.error (0,0)
 | t::r=>if t.kind=5 then .error (0,0) else .ok ((),r)
def isKind (k:Nat)(l:List Tok):Bool:=(hd l).kind == k
def dR (s:List UInt8)(l:List Tok):Bool:=(hd l).kind != 5 && (hd l).text == s
def cY (s:List UInt8):Pa Unit:=ax (dR s) cK (dr 3)
def AX (s:List UInt8):Bool:=s == [99,108,97,115,115] || s == [98,114,101,97,107] || s == [107,101,101,112] || s == [101,108,115,101]
def jY (l:List Tok):Bool:=(hd l).kind == 1 && !AX (hd l).text
def Dd (l:List Tok):Bool:=decide (10<(hd l).text.length)
def mQ:Pa (List UInt8):=ax jY (ax Dd (dr 4) (pb dX λt=>pb cK λ_=>pr t.text)) (dr 3)
def tg:Pa Nat:=ax (dR [124]) (pb cK λ_=>pr 3) (ax (dR [38]) (pb cK λ_=>pr 4) (ax (dR [45]) (pb cK λ_=>pr 5) (pr 0)))
def dM (one:Pa aw)(pos:Nat):Nat->aw->Pa aw
 | 0,k=>dr 0
 | n+1,k=>pb tg λc=>if c=0 then pr k else pb one λr=>dM one pos n (.bin c pos k r)
def sG (one:Pa aw):Pa aw:=pb dX λt=>pb one λk=>dM one t.pos 1000 k
def GQ:Pa aw:=pb dX λt=>match Gr t.text with
 | none=>dr 3
 | some s=>pb cK λ_=>pr (.lit t.pos s)
def kU:Nat->Pa aw
 | 0=>dr 4
 | d+1=>ax (isKind 3) GQ (ax (dR [126]) (pb dX λt=>pb cK λ_=>pb (kU d) λk=>pr (.not t.pos k))
  (ax (dR [40]) (pb cK λ_=>pb (sG (kU d)) λk=>pb (cY [41]) λ_=>pr k)
   (pb dX λt=>pb mQ λn=>pr (.ref t.pos n))))
def qX (d:Nat):Pa aw:=sG (kU d)
def xr (s:List UInt8):Nat:=s.foldl (λm b=>10*m+(b.toNat-48)) 0
def j4:Pa Nat:=ax (isKind 2) (pb dX λt=>if 12<xr t.text then dr 4 else pb cK λ_=>pr (xr t.text)) (dr 3)
def cf:Pa (Int×Int):=pb j4 λlo=>ax (dR [44])
 (pb cK λ_=>ax (isKind 2)
  (pb j4 λhi=>if hi<lo then dr 2 else pb (cY [125]) λ_=>pr ((lo:Int),(hi:Int)))
  (pb (cY [125]) λ_=>pr ((lo:Int),-1)))
 (pb (cY [125]) λ_=>pr ((lo:Int),(lo:Int)))
def eJ:Pa (Option (Int×Int)) :=
 ax (dR [42]) (pb cK λ_=>pr (some (0,-1)))
 (ax (dR [43]) (pb cK λ_=>pr (some (1,-1)))
 (ax (dR [63]) (pb cK λ_=>pr (some (0,1)))
 (ax (dR [123]) (pb cK λ_=>pb cf λr=>pr (some r)) (pr none))))
def bW (d:Nat):Nat->Nat->aG->Pa aG
 | 0,c,x=>dr 0
 | n+1,c,x=>pb eJ λr=>match r with
  | none=>pr x
  | some q=>if d<=c+1 then dr 4 else bW d n (c+1) (.many x q.1 q.2)
def aY (d:Nat)(unit:Pa aG):Pa aG:=pb unit λx=>bW d 1000 0 x
def kV (l:List Tok):Bool:=isKind 3 l || jY l || dR [46] l || dR [36] l || dR [40] l
def bD (again:Pa aG):Nat->List aG->Pa (List aG)
 | 0,acc=>dr 0
 | n+1,acc=>ax kV (pb again λx=>bD again n (acc++[x])) (pr acc)
def rowOf:List aG->aG
 | [x]=>x
 | l=>.cat l
def jN:List aG->aG
 | [x]=>x
 | l=>.alt l
def iH (again:Pa aG):Pa aG:=pb (bD again 1000 []) λps=>pr (rowOf ps)
def eR (row:Pa aG):Nat->List aG->Pa (List aG)
 | 0,acc=>dr 0
 | n+1,acc=>ax (dR [124]) (pb cK λ_=>pb row λx=>eR row n (acc++[x])) (pr acc)
def Kr (row:Pa aG):Pa aG:=pb row λx=>pb (eR row 1000 [x]) λps=>pr (jN ps)
def Ap (d:Nat)(unit:Pa aG):Pa aG:=if d=0 then dr 4 else Kr (iH (aY d unit))
def jF (l:List Tok):Bool:=isKind 3 l || jY l
def aq:Nat->Pa aG
 | 0=>dr 4
 | d+1=>ax (dR [46]) (pb cK λ_=>pr .any)
  (ax (dR [36]) (pb cK λ_=>pr .gg)
  (ax (dR [40]) (pb cK λ_=>pb (Ap d (aq d)) λx=>pb (cY [41]) λ_=>pr x)
  (ax jF (pb (kU (d+1)) λk=>pr (.one k)) (dr 3))))
def qk (d:Nat):Pa aG:=Ap d (aq d)
def nR:Pa fB:=pb dX λt=>pb (cY [99,108,97,115,115]) λ_=>pb mQ λn=>pb (cY [61]) λ_=>pb (qX 9) λk=>pb (cY [59]) λ_=>pr ⟨n,t.pos,k⟩
def bR:Nat->List fB->Pa (List fB)
 | 0,acc=>dr 0
 | n+1,acc=>ax (dR [99,108,97,115,115]) (if acc.length=20 then dr 4 else pb nR λc=>bR n (acc++[c])) (pr acc)
def gW:Pa Bool:=ax (dR [98,114,101,97,107]) (pb cK λ_=>pr true) (pb (cY [107,101,101,112]) λ_=>pr false)
def lI:Pa dG:=pb dX λt=>pb gW λb=>pb (qk 9) λx=>pb (cY [58]) λ_=>pb (qk 9) λy=>pb (cY [59]) λ_=>pr ⟨t.pos,b,x,y⟩
def gz (l:List Tok):Bool:=dR [98,114,101,97,107] l || dR [107,101,101,112] l
def bP:Nat->List dG->Pa (List dG)
 | 0,acc=>dr 0
 | n+1,acc=>ax gz (if acc.length=20 then dr 4 else pb lI λr=>bP n (acc++[r])) (pr acc)
def np:Pa Bool:=ax (dR [101,108,115,101]) (pb cK λ_=>pb gW λb=>pb (cY [59]) λ_=>pr b) (pr true)
def jB:Pa dY:=pb (bR 1000 []) λcs=>pb (bP 1000 []) λrs=>pb np λb=>pr ⟨cs,rs,b⟩
def dd (s:List UInt8):Except (Nat×Nat) dY:=match Sk s with
 | .error e=>.error e
 | .ok l=>match jB l with
  | .error e=>.error e
  | .ok (f,l')=>if isKind 5 l' then .ok f else .error (3,(hd l').pos)
def eY:aw->Bool->List UInt8
 | .lit _ s,_=>gT s
 | .ref _ n,_=>n
 | .not _ l,_=>126::eY l true
 | .bin c _ l r,alone =>
  let m:List UInt8:=if c=3 then [32,124,32] else if c=4 then [32,38,32] else [32,45,32]
  let s:=eY l false++m++eY r true
  if alone then 40::(s++[41]) else s
def PZ (n:Nat):List UInt8:=if n<10 then [P0 n] else if n<100 then [P0 (n / 10),P0 (n % 10)] else []
def wK (lo hi:Int):List UInt8 :=
 if lo=0/\hi<0 then [42] else if lo=1/\hi<0 then [43] else if lo=0/\hi=1 then [63]
 else if hi<0 then 123::(PZ lo.toNat++[44,125])
 else if hi=lo then 123::(PZ lo.toNat++[125])
 else 123::(PZ lo.toNat++44::(PZ hi.toNat++[125]))
def qU (b:Bool)(s:List UInt8):List UInt8:=if b then 40::(s++[41]) else s
mutual
def ab:aG->Nat->List UInt8
 | .one k,_=>eY k true
 | .any,_=>[46]
 | .gg,_=>[36]
 | .cat l,least=>qU (decide (1<least)) (Go.Lib.join (az l 2) [32])
 | .alt l,least=>qU (decide (0<least)) (Go.Lib.join (az l 1) [32,124,32])
 | .many x lo hi,_=>ab x 2++wK lo hi
def az:List aG->Nat->List (List UInt8)
 | [],_=>[]
 | x::l,least=>ab x least::az l least
end
def vS (c:fB):List UInt8:=[99,108,97,115,115,32]++c.name++[32,61,32]++eY c.kind false++[59,10]
def fp (r:dG):List UInt8 :=
 (if r.brk then [98,114,101,97,107,32] else [107,101,101,112,32])
  ++ (if ab r.before 0=[] then [] else ab r.before 0++[32])++[58]++(if ab r.after 0=[] then [] else 32::ab r.after 0)++[59,10]
def tu (b:Bool):List UInt8:=if b then [] else [101,108,115,101,32,107,101,101,112,59,10]
def mG (f:dY):List UInt8:=(f.cN.flatMap vS)++(f.rules.flatMap fp)++tu f.dD
def nM (bS:List Int)(back:Bool)(i:Nat):Option (Nat×Int) :=
 if back then (if i=0 then none else (bS[i-1]?).map λp=>(i-1,p)) else (bS[i]?).map λp=>(i+1,p)
def iterM (R:Nat->Nat->Prop):Nat->Nat->Nat->Prop
 | 0,i,j=>i=j
 | n+1,i,j=>∃m,R i m/\iterM R n m j
section
variable (has:aw->Int->Prop) (bS:List Int) (back:Bool)
mutual
def pY:aG->Nat->Nat->Prop
 | .one k,i,j=>∃p,nM bS back i=some (j,p)/\has k p
 | .any,i,j=>∃p,nM bS back i=some (j,p)
 | .gg,i,j=>i=j/\nM bS back i=none
 | .cat l,i,j=>if back then xm l i j else xo l i j
 | .alt l,i,j=>CK l i j
 | .many x lo hi,i,j=>∃n:Nat,lo<=n/\(hi<0\/(n:Int)<=hi)/\iterM (λa b=>pY x a b) n i j
def xo:List aG->Nat->Nat->Prop
 | [],i,j=>i=j
 | x::l,i,j=>∃m,pY x i m/\xo l m j
def xm:List aG->Nat->Nat->Prop
 | [],i,j=>i=j
 | x::l,i,j=>∃m,xm l i m/\pY x m j
def CK:List aG->Nat->Nat->Prop
 | [],_,_=>False
 | x::l,i,j=>pY x i j\/CK l i j
end
end
section
variable {has:aw->Int->Prop} {bS:List Int} {back:Bool}
theorem J8 {x:aG}{lo hi:Int}{i j:Nat}:pY has bS back (.many x lo hi) i j↔∃n:Nat,lo<=n/\(hi<0\/(n:Int)<=hi)/\iterM (pY has bS back x) n i j:=by simp only[pY]
theorem ot {R:Nat->Nat->Prop}:∀{n i j:Nat},iterM R (n+1) i j↔∃m,iterM R n i m/\R m j
 | 0,i,j=>by simp[iterM]
 | n+1,i,j=>by
  constructor
  ·rintro⟨a,h1,h2⟩;obtain⟨b,h3,h4⟩:=ot.1 h2;exact⟨b,⟨a,h1,h3⟩,h4⟩
  rintro⟨b,⟨a,h1,h3⟩,h4⟩;exact⟨a,h1,ot.2 ⟨b,h3,h4⟩⟩
theorem vE {i j:Nat}{p:Int}(h:nM bS back i=some (j,p))(hi:i<=bS.length):j<=bS.length:=by
 unfold nM at h;split at h
 ·split at h
  ·cases h
  cases hp:bS[i-1]? with
  | none=>rw[hp]at h;cases h
  | some q=>rw[hp]at h;cases h;omega
 cases hp:bS[i]? with
 | none=>rw[hp]at h;cases h
 | some q =>
  rw[hp]at h;cases h
  have:=(List.getElem?_eq_some_iff.1 hp).1;omega
theorem AS {R:Nat->Nat->Prop}{N:Nat}(h:∀i j,i<=N->R i j->j<=N):∀{n i j:Nat},i<=N->iterM R n i j->j<=N
 | 0,_,_,hi,e=>by cases e;exact hi
 | n+1,_,_,hi,⟨m,h1,h2⟩=>AS h (h _ _ hi h1) h2
mutual
theorem wB:∀(x:aG) {i j:Nat},i<=bS.length->pY has bS back x i j->j<=bS.length
 | .one k,i,j,hi,h=>by simp only[pY]at h;obtain⟨p,h,_⟩:=h;exact vE h hi
 | .any,i,j,hi,h=>by simp only[pY]at h;obtain⟨p,h⟩:=h;exact vE h hi
 | .gg,i,j,hi,h=>by simp only[pY]at h;omega
 | .cat l,i,j,hi,h=>by
  simp only[pY]at h;split at h
  ·exact Gf l hi h
  exact O1 l hi h
 | .alt l,i,j,hi,h=>by simp only[pY]at h;exact O0 l hi h
 | .many x lo yF,i,j,hi,h=>by
  simp only[pY]at h;obtain⟨n,_,_,h⟩:=h;exact AS (λa b ha hr=>wB x ha hr) hi h
theorem O1:∀(l:List aG) {i j:Nat},i<=bS.length->xo has bS back l i j->j<=bS.length
 | [],i,j,hi,h=>by simp only[xo]at h;omega
 | x::l,i,j,hi,h=>by simp only[xo]at h;obtain⟨m,h1,h2⟩:=h;exact O1 l (wB x hi h1) h2
theorem Gf:∀(l:List aG) {i j:Nat},i<=bS.length->xm has bS back l i j->j<=bS.length
 | [],i,j,hi,h=>by simp only[xm]at h;omega
 | x::l,i,j,hi,h=>by simp only[xm]at h;obtain⟨m,h1,h2⟩:=h;exact wB x (Gf l hi h1) h2
theorem O0:∀(l:List aG) {i j:Nat},i<=bS.length->CK has bS back l i j->j<=bS.length
 | [],i,j,hi,h=>by simp only[CK]at h
 | x::l,i,j,hi,h=>by
  simp only[CK]at h;rcases h with h|h
  ·exact wB x hi h
  exact O0 l hi h
end
end
mutual
def aJ2:aG->aG
 | .one k=>.one k
 | .any=>.any
 | .gg=>.gg
 | .cat l=>.cat (XH l).reverse
 | .alt l=>.alt (XH l)
 | .many x lo hi=>.many (aJ2 x) lo hi
def XH:List aG->List aG
 | []=>[]
 | x::l=>aJ2 x::XH l
end
section
variable {has:aw->Int->Prop} {bS:List Int} {back:Bool}
end
open Classical
section
variable (has:aw->Int->Prop) (bS:List Int)
def lW (x:aG)(i:Nat)(back:Bool):Prop:=∃j,pY has bS back x i j
def RW (r:dG)(i:Nat):Prop:=lW has bS r.before i true/\lW has bS r.after i false
noncomputable def BF (dD:Bool)(i:Nat):List dG->Bool
 | []=>dD
 | r::l=>if RW has bS r i then r.brk else BF dD i l
noncomputable def isM (rules:List dG)(dD:Bool)(i:Nat):Bool:=BF has bS dD i rules || decide (i=0) || decide (i=bS.length)
noncomputable def tj (rules:List dG)(dD:Bool):List Nat:=if bS=[] then [] else (List.range (bS.length+1)).filter (isM has bS rules dD)
end
section
variable {has:aw->Int->Prop} {bS:List Int}
end
end Cae
end
