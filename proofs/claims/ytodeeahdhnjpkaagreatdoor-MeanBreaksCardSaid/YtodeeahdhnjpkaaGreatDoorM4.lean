/- Texts of this claim, merged: Vo, Vw, So0, Hex, EncN, Join, Sprint, Cut, Byt, Pint, Ppar, Prul, Stp, Pst. -/
import Derived.Test.YtodeeahdhnjpkaaGreatDoorM3
import Derived.Shelf.Strings.OnBuilder
import Derived.Shelf.Strings.Search3
import Derived.Shelf.Small.Wraps
import Derived.Lib.IfaceEq
import Derived.Lib.IfaceNeq
set_option maxRecDepth 100000
set_option linter.unusedSimpArgs false
set_option linter.unusedVariables false
set_option maxHeartbeats 8000000
section
namespace Go.Vc
open Go.RowKit
theorem aJp {L:VP}{other:Prop}(c:Bool)(n k n' k':Nat)(p):cd 3 c .eql (.slice none n k) (.slice none n' k') L other p=L (.bool true):=by cases c<;>rfl
theorem aJq {L:VP}{other:Prop}(c:Bool)(a:Addr)(n k n' k':Nat)(p):cd 3 c .eql (.slice (some a) n k) (.slice none n' k') L other p=L (.bool false):=by cases c<;>rfl
theorem Kh {α:Type}[DecidableEq α][BEq α][LawfulBEq α](a b:α):(a == b)=decide (a=b):=by
 by_cases h:a=b
 ·subst h;simp
 rw[decide_eq_false h];exact beq_eq_false_iff_ne.2 h
theorem Ki (a b:List UInt8):((⟨a.toArray⟩:ByteArray) == ⟨b.toArray⟩)=decide (a=b):=by
 show (a.toArray == b.toArray)=_
 rw[List.beq_toArray];exact Kh a b
section
set_option linter.unusedSectionVars false
variable {P:Program} {α:Type} [DecidableEq α]
structure uf (P:Program)(kt:TypeId)(key:α->Value):Prop where
 und:∃d,P.underlying kt=some d/\∀a b,Instr.sameNow d (key a) (key b)=some (decide (a=b))
 bits:∀n a,Instr.sameBits n (key a) (key a)=true
 check:∀em n a w,(Instr.checkKey em (n+1) kt (key a)).run P w=.ok () w
theorem gL {kt:TypeId}(hk:P.underlying kt=some .string):uf P kt (λl:List UInt8=>str l) where
 und:=⟨_,hk,λa b=>by
  simp only[str,Instr.sameNow,Option.some.injEq];exact Ki a b⟩
 bits:=λn a=>by have:=(Ki a a).trans (decide_eq_true rfl);cases n<;>simpa[str,Instr.sameBits] using this
 check:=λem n a w=>by simp[str,Instr.checkKey,run_underlying hk]
def WK (l:List MapEntry)(clock:Nat):Prop:=(∀n∈l.map (·.born),n<clock)/\(l.map (·.born)).Nodup
theorem WK.modify {l:List MapEntry}{clock:Nat}(h:WK l clock)(j:Nat)(k v:Value):WK (l.modify j λe=>{ e with key:=k,val:=v }) clock:=by
 have e:∀(l:List MapEntry) (j:Nat),(l.modify j λe=>{ e with key:=k,val:=v }).map (·.born)=l.map (·.born):=by
  intro l;induction l with
  | nil=>intro j;cases j<;>rfl
  | cons a l ih=>intro j;cases j with
   | zero=>rfl
   | succ j=>simp only[List.modify_succ_cons,List.map_cons,ih j]
 unfold WK;rw[e];exact h
theorem WK.push {l:List MapEntry}{clock:Nat}(h:WK l clock)(k v:Value):WK (l++[{ key:=k,val:=v,born:=clock }]) (clock+1):=by
 unfold WK;rw[List.map_append];refine⟨λn hn=>?_,?_⟩
 ·rcases List.mem_append.1 hn with h1|h1
  ·have:=h.1 n h1;omega
  have:n=clock:=by simpa using h1
  omega
 refine List.nodup_append.2 ⟨h.2,by simp,λa ha b hb=>?_⟩;have:b=clock:=by simpa using hb
 have:=h.1 a ha;omega
def mP (key:α->Value)(w:World)(b:Nat)(gD:List (α×Value)):Prop :=
 ∃(es:Array MapEntry) (clock:Nat),w.heap[b]?=some (.map es clock)/\(es.toList.map λe=>(e.key,e.val))=(gD.map λp=>(key p.1,p.2))/\WK es.toList clock
def eN (k:α):List (α×Value)->Option Value
 | []=>none
 | p::r=>if k=p.1 then some p.2 else eN k r
def AY (k:α)(v:Value):List (α×Value)->List (α×Value)
 | []=>[(k,v)]
 | p::r=>if k=p.1 then (p.1,v)::r else p::AY k v r
variable {key:α->Value}
theorem mP.kept {X:Nat->Prop}{w w':World}{b:Nat}{gD:List (α×Value)}(h:mP key w b gD)(hk:Kept X w w')(hX:¬X b):mP key w' b gD:=by
 obtain⟨es,clock,h1,h2⟩:=h;exact⟨es,clock,(hk.block b (Array.getElem?_eq_some_iff.1 h1).1 hX).trans h1,h2⟩
theorem mP.lt {w:World}{b:Nat}{gD:List (α×Value)}(h:mP key w b gD):b<w.heap.size:=by
 obtain⟨es,clock,h1,h2⟩:=h;exact(Array.getElem?_eq_some_iff.1 h1).1
theorem mP.below {B:Nat}{w w':World}{b:Nat}{gD:List (α×Value)}(h:mP key w b gD)(hk:Below B w w')(hX:b<B):mP key w' b gD:=by
 obtain⟨es,clock,h1,h2⟩:=h;exact⟨es,clock,(hk.block b hX).trans h1,h2⟩
theorem uC {d:TypeDesc}(hd:∀a b,Instr.sameNow d (key a) (key b)=some (decide (a=b)))(k:α):∀(es:List MapEntry) (gD:List (α×Value)) (i:Nat),(es.map λe=>(e.key,e.val))=(gD.map λp=>(key p.1,p.2)) ->
  ∃r,Instr.findNow d (key k) es i=some r/\((∃j e u,r=some (j,u)/\i<=j/\es[j-i]?=some e/\e.key=key k/\eN k gD=some u/\∀v,(es.modify (j-i) (λe=>{ e with key:=key k,val:=v })).map (λe=>(e.key,e.val))=(AY k v gD).map λp=>(key p.1,p.2)) \/
   (r=none/\eN k gD=none/\∀v,AY k v gD=gD++[(k,v)]))
 | [],[],i,_=>⟨none,rfl,.inr ⟨rfl,rfl,λ_=>rfl⟩⟩
 | [],_::_,_,h=>by simp at h
 | _::_,[],_,h=>by simp at h
 | e::es,p::gD,i,h=>by
  simp only[List.map_cons,List.cons.injEq,Prod.mk.injEq]at h;obtain⟨⟨h1,h2⟩,h3⟩:=h;rw[Instr.findNow,h1,hd];by_cases hx:k=p.1
  ·rw[decide_eq_true hx];refine⟨some (i,e.val),rfl,.inl ⟨i,e,e.val,rfl,Nat.le_refl _,by simp,by rw[h1,hx],by rw[eN,if_pos hx,h2],λv=>?_⟩⟩;rw[Nat.sub_self,AY,if_pos hx];simp[h3,hx]
  rw[decide_eq_false hx];obtain⟨r,hr,hh⟩:=uC hd k es gD (i+1) h3;refine⟨r,hr,?_⟩;rcases hh with ⟨j,e',u,h4,h5,h6,h7,h8,h9⟩|⟨h4,h5,h6⟩
  ·refine .inl ⟨j,e',u,h4,by omega,?_,h7,by rw[eN,if_neg hx,h8],λv=>?_⟩
   ·rw[show j-i=(j-(i+1))+1 by omega]
    simpa using h6
   rw[show j-i=(j-(i+1))+1 by omega,AY,if_neg hx]
   simp only[List.modify_succ_cons,List.map_cons,h1,h2];rw[h9 v]
  exact .inr ⟨h4,by rw[eN,if_neg hx,h5],λv=>by rw[AY,if_neg hx,h6 v];rfl⟩
theorem G7 {mt kt et:TypeId}{w:World}{b:Nat}{gD:List (α×Value)}{z:Value}(hm:P.underlying mt=some (.map kt et))(hk:uf P kt key)(hz:(P.info? et).bind (·.zero)=some z)(h:mP key w b gD)(k:α)(c:Bool) :
  (Instr.lookup mt (.map (some b)) (key k) c).run P w=.ok (if c then .tuple #[(eN k gD).getD z,.bool (eN k gD).isSome] else (eN k gD).getD z) w:=by
 obtain⟨es,clock,h1,h2,_⟩:=h;obtain⟨i,hi,hz⟩:=Option.bind_eq_some_iff.1 hz;obtain⟨d,hd,hs⟩:=hk.und;obtain⟨r,hr,hh⟩:=uC hs k es.toList gD 0 h2;have Zk:(Instr.checkKey es.isEmpty 10000 kt (key k)).run P w=.ok () w:=hk.check _ 9999 k w;have hfk:(Instr.findKey kt (key k) es.toList).run P w=.ok r w:=by simp[Instr.findKey,run_underlying hd,hr]
 have p6:(getObj b).run P w=.ok (.map es clock) w:=by simp[getObj,Sem.run,h1]
 rcases hh with ⟨j,e,u,rfl,_,_,_,ha,_⟩|⟨rfl,ha,_⟩
 ·simp[Instr.lookup,run_underlying hm,p6,Zk,hfk,ha]
 simp[Instr.lookup,run_underlying hm,p6,Zk,hfk,ha,zeroValue,typeInfo,hi,hz]
theorem H8 {mt kt et:TypeId}{w:World}{b:Nat}{gD:List (α×Value)}(hm:P.underlying mt=some (.map kt et))(hk:uf P kt key)(h:mP key w b gD)(k:α)(v:Value) :
  ∃w',(Instr.mapUpdate mt (.map (some b)) (key k) v).run P w=.ok () w'/\mP key w' b (AY k v gD)/\Kept (·=b) w w'/\w'.heap.size=w.heap.size:=by
 obtain⟨es,clock,h1,h2,cO⟩:=h;have bZ:=(Array.getElem?_eq_some_iff.1 h1).1;obtain⟨d,hd,hs⟩:=hk.und;obtain⟨r,hr,hh⟩:=uC hs k es.toList gD 0 h2;have Zk:(Instr.checkKey false 10000 kt (key k)).run P w=.ok () w:=hk.check _ 9999 k w;have hfk:(Instr.findKey kt (key k) es.toList).run P w=.ok r w:=by simp[Instr.findKey,run_underlying hd,hr]
 have p6:(getObj b).run P w=.ok (.map es clock) w:=by simp[getObj,Sem.run,h1]
 have vj:∀o,(setObj b o).run P w=.ok () { w with heap:=w.heap.setIfInBounds b o }:=λo=>by simp[setObj,Sem.run,h1]
 have Kx:∀o,Kept (·=b) w { w with heap:=w.heap.setIfInBounds b o }:=λo=>⟨rfl,rfl,rfl,by simp,λi hi dA=>by simp[Array.getElem?_setIfInBounds,Ne.symm dA]⟩;rcases hh with ⟨j,e,u,rfl,_,he,hek,ha,hp⟩|⟨rfl,ha,hp⟩
 ·have aKj:es[j]?=some e:=by simpa using he
  have Sm:(Instr.keyThatStays e.key (key k)).run P w=.ok (key k) w:=by
   have:Instr.sameBits 10000 e.key (key k)=true:=by rw[hek];exact hk.bits 10000 k
   simp only[Instr.keyThatStays,this,if_true];rfl
  refine⟨{ w with heap:=w.heap.setIfInBounds b (.map (es.modify j λe=>{ e with key:=key k,val:=v }) clock) },?_,⟨es.modify j λe=>{ e with key:=key k,val:=v },clock,?_,?_,by rw[Array.toList_modify];exact cO.modify _ _ _⟩,Kx _,by simp⟩
  ·simp[Instr.mapUpdate,run_underlying hm,p6,Zk,hfk,aKj,Sm,vj]
  ·simp[bZ]
  rw[<-hp v,Nat.sub_zero,Array.toList_modify]
 refine⟨{ w with heap:=w.heap.setIfInBounds b (.map (es.push { key:=key k,val:=v,born:=clock }) (clock+1)) },?_,⟨es.push { key:=key k,val:=v,born:=clock },clock+1,?_,?_,by rw[Array.toList_push];exact cO.push _ _⟩,Kx _,by simp⟩
 ·simp[Instr.mapUpdate,run_underlying hm,p6,Zk,hfk,vj]
 ·simp[bZ]
 rw[hp v];simp[h2]
theorem wN {mt kt et:TypeId}{w:World}{b:Nat}{gD:List (α×Value)}{z:Value}{t:Fr}{K:VK}{Q:EP}{p}{c:Bool}{k:α}(hm:P.underlying mt=some (.map kt et))(hk:uf P kt key)(hz:(P.info? et).bind (·.zero)=some z)(h:mP key w b gD)
  (kk:K (if c then .tuple #[(eN k gD).getD z,.bool (eN k gD).isSome] else (eN k gD).getD z) w):aq P (Instr.lookup mt (.map (some b)) (key k) c) t w K Q p:=dq (G7 hm hk hz h k c) kk
theorem ZF {mt kt et:TypeId}{w:World}{b:Nat}{gD:List (α×Value)}{t:Fr}{K:VK}{Q:EP}{k:α}{v:Value}(hm:P.underlying mt=some (.map kt et))(hk:uf P kt key)(h:mP key w b gD)
  (kk:∀w',mP key w' b (AY k v gD)->Kept (·=b) w w'->w'.heap.size=w.heap.size->K undef w'):a8 P (Instr.mapUpdate mt (.map (some b)) (key k) v) t w K Q .mk:=by
 obtain⟨w',hr,h1,h2,h3⟩:=H8 hm hk h k v;exact yq hr (kk w' h1 h2 h3)
theorem lQ {mt kt et:TypeId}{w:World}{b:Nat}{gD:List (α×Value)}{z kv u:Value}{t:Fr}{K:VK}{Q:EP}{p}{k:α}(hm:P.underlying mt=some (.map kt et))(hk:uf P kt key)(hz:(P.info? et).bind (·.zero)=some z)(h:mP key w b gD)(EH:kv=key k)(ha:eN k gD=some u)
  (kk:K (.tuple #[u,.bool true]) w):aq P (Instr.lookup mt (.map (some b)) kv true) t w K Q p:=by
 subst EH;refine wN hm hk hz h ?_;rw[ha];exact kk
theorem lP {mt kt et:TypeId}{w:World}{b:Nat}{gD:List (α×Value)}{z kv:Value}{t:Fr}{K:VK}{Q:EP}{p}{k:α}(hm:P.underlying mt=some (.map kt et))(hk:uf P kt key)(hz:(P.info? et).bind (·.zero)=some z)(h:mP key w b gD)(EH:kv=key k)(ha:eN k gD=none)
  (kk:K (.tuple #[z,.bool false]) w):aq P (Instr.lookup mt (.map (some b)) kv true) t w K Q p:=by
 subst EH;refine wN hm hk hz h ?_;rw[ha];exact kk
theorem BF {k:α}{v:Value}:∀{gD:List (α×Value)},eN k gD=none->AY k v gD=gD++[(k,v)]
 | [],_=>rfl
 | p::r,h=>by
  rw[eN]at h;split at h
  ·cases h
  rename_i dA;rw[AY,if_neg dA,BF h];rfl
theorem fU {mt kt et:TypeId}{w:World}{b:Nat}{gD:List (α×Value)}{t:Fr}{K:VK}{Q:EP}{k:α}{v kv:Value}(hm:P.underlying mt=some (.map kt et))(hk:uf P kt key)(h:mP key w b gD)(EH:kv=key k)(ha:eN k gD=none)
  (kk:∀w',mP key w' b (gD++[(k,v)])->Kept (·=b) w w'->w'.heap.size=w.heap.size->K undef w'):a8 P (Instr.mapUpdate mt (.map (some b)) kv v) t w K Q .mk:=by
 subst EH;refine ZF hm hk h ?_;rw[BF ha];exact kk
theorem tK {mt:TypeId}{w:World}{t:Fr}{K:VK}{Q:EP}{p}{key:α->Value}(kk:∀w',mP key w' w.heap.size []->Below w.heap.size w w'->w'.heap.size=w.heap.size+1->K (.map (some w.heap.size)) w'):aq P (Instr.makeMap mt none) t w K Q p :=
 dq (w':=w.alloc (.map #[] 0)) (v:=.map (some w.heap.size)) rfl (kk _ ⟨#[],0,heap_alloc_new w _,rfl,(λn h=>by cases h),.nil⟩ ((Below.refl _ _).alloc (Nat.le_refl _) _) (by simp))
end
end Go.Vc
namespace Go.Vc
section
variable {P:Program}
end
end Go.Vc
end
section
namespace Go.Vc
open Go.RowKit
section
variable {P:Program} {ops:Array Oper} {C D:World->Prop}
end
section
variable {P:Program}
def og (P:Program)(ops:List Oper)(D:World->Prop)(R:Fr->World->Prop):(l:List Nat)->Fr->World->Ph (ops,D,R,l)->Prop
 | [],t,w,_=>R t w
 | k::r,t,w,_=>iG P ops D ops[k]? (λt w=>og P ops D R r t w .mk) t w .mk
def qN (P:Program)(ops:List Oper)(C D:World->Prop)(R:Fr->World->Prop)(m:Nat)(post:List Nat):(l:List (Nat×Bool))->Fr->World->Ph (ops,C,D,R,m,post,l)->Prop
 | [],t,w,_=>iG P ops D ops[m]? (λt w=>og P ops D R post t w .mk) t w .mk
 | (k,true)::r,t,w,_=>iG P ops D ops[k]? (λt w=>qN P ops C D R m post r t w .mk) t w .mk
 | (k,false)::r,t,w,_=>iG P ops C ops[k]? (λt w=>qN P ops C D R m post r t w .mk) t w .mk
variable {t:Fr} {w:World} {C D:World->Prop} {R:Fr->World->Prop}
theorem He (ops)(p):og P ops D R [] t w p=R t w:=(rfl)
theorem Dt (ops k r)(p):og P ops D R (k::r) t w p=iG P ops D ops[k]? (λt w=>og P ops D R r t w .mk) t w .mk:=(rfl)
theorem KZ (ops m post)(p):qN P ops C D R m post [] t w p=iG P ops D ops[m]? (λt w=>og P ops D R post t w .mk) t w .mk:=(rfl)
theorem Hi (ops m post k r)(p):qN P ops C D R m post ((k,true)::r) t w p=iG P ops D ops[k]? (λt w=>qN P ops C D R m post r t w .mk) t w .mk:=(rfl)
theorem Du (ops m post k r)(p):qN P ops C D R m post ((k,false)::r) t w p=iG P ops C ops[k]? (λt w=>qN P ops C D R m post r t w .mk) t w .mk:=(rfl)
end
attribute [push_cast] He Dt KZ Hi Du
attribute [irreducible] og qN
end Go.Vc
end
section
namespace Go.Vc
open Go.RowKit
theorem Own.aEN {α:Type}{base k:Nat}{e:TypeId}{enc:α->List Value}{w:World}{b o n c:Nat}{l:List α}(h:Vc.Own base e k enc w (.slice (some ⟨b,o,none⟩) n c) l):o=0:=by
 rcases h.1.2 with ⟨he,_⟩|⟨g,cap,cr,he,_⟩
 ·cases he
 cases he;rfl
section
variable {P:Program} {t:Fr} {w:World} {C:World->Prop} {K:VK}
theorem Tu (d)(args:List Operand)(lg ty pos af g)(p):dT P ⟨d,.call { callee:=.builtin .max,args:=args.toArray,argTypes:=lg },ty,pos,af,g⟩ t w C K p =
  WE true (args.map (ev t)) (K · w) False .mk:=rfl
theorem Tw (d)(args:List Operand)(lg ty pos af g)(p):dT P ⟨d,.call { callee:=.builtin .min,args:=args.toArray,argTypes:=lg },ty,pos,af,g⟩ t w C K p =
  WE false (args.map (ev t)) (K · w) False .mk:=rfl
end
attribute [push_cast] Tu Tw
theorem bx {P:Program}{f:FuncId}{fn:Func}{args:List Value}{w:World}{R:VK}(hf:P.funcs[f]?=some fn)(hb:fn.body.isNone=false)(hn:(fn.name == "runtime.NumGoroutine")=false)
  (h:Calls P f args.toArray w λe w'=>∃v,e=.returned v/\R v w'):bD P f args w R:=⟨cR hf hb hn,h⟩
theorem UP {α:Type}{w:World}{e:TypeId}{k g G:Nat}{enc:α->List Value}{cur:Array Value}(hk:∀x,(enc x).length=k)(hb:w.heap[g]?=some (.cells cur e (0,0)))(hG:G<=maxLen)(hs:cur.size=G*k):Vc.Own g e k enc w (.slice (some ⟨g,0,none⟩) 0 G) ([]:List α) :=
 ⟨⟨by simp,.inr ⟨g,G,cur,rfl,Nat.le_refl _,hb,Nat.zero_le _,hG,hs,by simp⟩⟩,hk⟩
theorem Bz {P:Program}{f:FuncId}{args:List Value}{w:World}{R:VK}(h:bD P f args w R):Calls P f args.toArray w λe w'=>∃v,e=.returned v/\R v w':=h.2
end Go.Vc
namespace Go.Proofs.YtodeeahdhnjpkaaGreatDoor
open Go.Vc Go.Proofs Go.RowKit Cae
attribute [local irreducible] cw ag aq a8 runK bD Sl Vc.Own vc aW cN ai
end Go.Proofs.YtodeeahdhnjpkaaGreatDoor
namespace Go.RowKit
theorem Below.tr {a b c:World}(h:Below a.heap.size a b)(k:Below b.heap.size b c):Below a.heap.size a c:=h.trans (k.mono h.size)
end Go.RowKit
end
section
namespace Cae
def MY (n:Nat):UInt8:=if n<10 then UInt8.ofNat (48+n) else UInt8.ofNat (87+n)
def pZ:Nat->Nat->List UInt8->List UInt8
 | 0,n,acc=>MY n::acc
 | f+1,n,acc=>if n<16 then MY n::acc else pZ f (n / 16) (MY (n % 16)::acc)
def fu (n:Nat):List UInt8:=pZ 8 n []
theorem Fz:∀(f n:Nat) (acc:List UInt8),(pZ f n acc).length<=f+1+acc.length
 | 0,n,acc=>by rw[pZ];simp;omega
 | f+1,n,acc=>by
  rw[pZ];split
  ·simp;omega
  have:=Fz f (n / 16) (MY (n % 16)::acc);rw[List.length_cons]at this;omega
theorem nX (n:Nat):(fu n).length<=9:=Fz 8 n []
end Cae
namespace Go.Vc
open Go.RowKit
theorem Yg {α:Type}{f:α->Value}{w:World}{b c j n:Nat}{e:TypeId}{l:List α}{cs:List Value}(hB:aO w b e cs)(hd:cs.drop j=l.map f)(hn:n=l.length)(hc:l.length<=c):Sl (λ_=>False) 1 (En (λx=>[f x])) w (.slice (some ⟨b,j,none⟩) n c) l:=by
 subst hn;refine⟨_,_,rfl,hc,λi x hx=>⟨b,j,[f x],rfl,id,rfl,λk u hu=>?_,rfl⟩⟩;cases k with
 | zero =>
  simp at hu;subst hu;rw[Nat.mul_one,Nat.add_zero];refine hB.cell ?_;have h1:(cs.drop j)[i]?=some (f x):=by rw[hd,List.getElem?_map,hx];rfl
  rwa [List.getElem?_drop]at h1
 | succ k=>simp at hu
end Go.Vc
namespace Go.Proofs.YtodeeahdhnjpkaaGreatDoor
open Go.Vc Go.Proofs Go.RowKit Cae
attribute [local irreducible] cw ag aq a8 runK bD Sl Vc.Own vc aW cN ai
def Db (w:World):Prop:=w.cell? ⟨12,15,none⟩=some (.int .u8 4)
theorem Db.below {w w':World}{B:Nat}(h:Db w)(hb:Below B w w')(hB:12<B):Db w':=(hb.cell hB).trans h
theorem Db.lt {w:World}(h:Db w):12<w.heap.size:=World.block_lt_of_cell? w _ h
theorem Br {x y:Nat}(hx:x<18446744073709551616)(hy:y<18446744073709551616):eJ .and .u64 x y=((x &&& y:Nat):Int):=by
 simp only[eJ,qZ,BitVec.toNat_and,BitVec.toNat_ofNat];rw[Nat.mod_eq_of_lt (show x<2 ^ IntKind.u64.bits by show x<2 ^ 64;omega),Nat.mod_eq_of_lt (show y<2 ^ IntKind.u64.bits by show y<2 ^ 64;omega),fX,Nat.mod_eq_of_lt (IS (n:=64) hx)]
theorem Ra:∀d:Nat,d<16->([48,49,50,51,52,53,54,55,56,57,97,98,99,100,101,102,103,104,105,106,107,108,109,110,111,112,113,114,115,116,117,118,119,120,121,122]:List UInt8).getD d 0=MY d:=by decide
theorem aC0 (w:World):bD Tryz.prog 235 [.int .i64 16] w λr w'=>r=.bool true/\w'=w:=by
 refine aE Tryz.func235 rfl (by kernel_rfl) [2] rfl ?_;push_cast -dsimp(maxSteps:=4000000) [Tryz.ntmps235];have e1:eJ .and .i64 16 15=0:=by decide +kernel
 rw[e1];rfl
theorem aDM (w:World)(h:Db w):bD Tryz.prog 241 [.int .u64 16] w λr w'=>r=.int .i64 4/\w'=w:=by
 refine aE Tryz.func241 rfl (by kernel_rfl) [2] rfl ?_;push_cast -dsimp(maxSteps:=4000000) [Tryz.ntmps241];push_cast -dsimp;have e1:(IntKind.u64.wrap (eJ .and .u64 16 (IntKind.u64.wrap (-16))*285870213051353865)).fdiv (2 ^ min 58 IntKind.u64.bits)=15:=by decide +kernel
 rw[e1];have h':w.cell? ⟨12,15,none⟩=some (.int .u8 4):=h;push_cast -dsimp[h'];rfl
theorem aLU (w:World)(h:Db w):bD Tryz.prog 236 [.int .u64 16] w λr w'=>r=.int .i64 4/\w'=w:=by
 refine aE Tryz.func236 rfl (by kernel_rfl) [2] rfl ?_;push_cast -dsimp(maxSteps:=4000000) [Tryz.ntmps236];refine aA (aDM w h) ?_;rintro _ w1 ⟨rfl,rfl⟩;push_cast -dsimp
theorem Om {P:Program}{xt:TypeId}{n s:Nat}{e:TypeId}{E:Option (TypeId×Nat)}{a:Addr}{j:Nat}{L:VP}{o:Oper}{t:Fr}{w:World}{K:VK}{Q:EP}{p}(hu:P.underlying xt=some (.array n e))(hn:P.arrayLen xt=n)(he:P.elem xt=e)
  (hs:(sizeOf e).run P w=.ok s w) (ho:execOp (ev t) o=(do pure (.value (<-Instr.sliceAt xt (.pointer (some a)) (some (.int .i64 (j:Int))) none none)))) (hj:j<n)
  (k:K (.slice (some (a.add (j*s))) (n-j) (n-j)) w):gm (P.underlying xt) E (.pointer (some a)) (some (.int .i64 (j:Int))) none none L (runK P o t w K Q .mk) p:=by
 rw[hu]
 show runK P o t w K Q .mk
 refine gA ho (dq ?_ k);rw[run_sliceAt_array_l w xt a (by rw[hu,hn,he]) .i64 (j:Int) (by omega) (by rw[hn];omega),he,hs];rw[hn];unfold slicedAt;rw[Int.toNat_natCast]
 show Result.ok (Value.slice (some (if n=j then a else a.add (j*s))) (n-j) (n-j)) w=_
 rw[if_neg (by omega)]
theorem Cp (n:Nat)(hn:n<4294967296)(w:World)(h:Db w) :
  bD Tryz.prog 221 [.slice none 0 0,.int .u64 (n:Int),.int .i64 16,.bool false,.bool false] w λr w'=>r=.tuple #[.slice none 0 0,str (fu n)]/\Below w.heap.size w w':=by
 refine aE Tryz.func221 rfl (by kernel_rfl) [10,11] rfl ?_;push_cast -dsimp(maxSteps:=4000000) [Tryz.ntmps221];push_cast -dsimp;refine aR (z:=List.replicate 65 (.int .u8 0)) (by kernel_rfl) ?_;intro w1 au;have sT:=au.size;have de:=au.below;push_cast -dsimp;refine aA (aC0 w1) ?_;rintro _ w2 ⟨rfl,rfl⟩;push_cast -dsimp;have e4:IntKind.u64.wrap 4=4:=by decide
 have Za:IntKind.u64.wrap 16=16:=by decide
 have e15:IntKind.u64.wrap (16-1)=15:=by decide
 refine aA (aLU w2 (h.below de h.lt)) ?_;rintro _ w3 ⟨rfl,rfl⟩;push_cast -dsimp[e4,Za,e15];refine aM [1,13,44,45,46,47,48,49,50,51,52,53,54,55,56,57] (λz wx=>∃(f m i:Nat) (acc:List UInt8) (cs:List Value),z 1=.int .u64 (m:Int)/\z 13=.int .i64 (i:Int)/\i=57+f/\f<=8/\m<16 ^ (f+1)/\pZ f m acc=fu n/\cs.length=65/\cs.drop i=acc.map (λb=>.int .u8 (b.toNat:Int))/\aO wx w.heap.size 312 cs/\Below w.heap.size w wx) (λz _=>(intOf (z 13)).toNat) ?_ ?_
 ·refine⟨8,n,65,[],_,rfl,rfl,rfl,Nat.le_refl _,by omega,rfl,List.length_replicate ..,?_,au.aN,de⟩;rfl
 intro z wx hI;obtain⟨f,m,i,acc,cs,h1,zD,hif,hf,hm,hh,lC,hcd,hB,bC⟩:=hI;have BV:=bC.size;have aKP:m<18446744073709551616:=Nat.lt_of_lt_of_le hm (Nat.le_trans (Nat.pow_le_pow_right (by omega) (show f+1<=9 by omega)) (by decide))
 have hgd:∃d,m % 16=d:=⟨_,rfl⟩;obtain⟨d,hd⟩:=hgd;have aKi:d<16:=by omega
 have ea:eJ .and .u64 (m:Int) (IntKind.u64.wrap 15)=(d:Int):=by
  rw[show IntKind.u64.wrap 15=((2 ^ 4-1:Nat):Int) from rfl,Br aKP (by omega),lf,<-hd]
 have hq:∃q,m / 16=q:=⟨_,rfl⟩;obtain⟨q,hq⟩:=hq;have es:(m:Int).fdiv (2 ^ min 4 IntKind.u64.bits)=(q:Int):=by
  rw[<-hq];exact kB (b:=4) (k:=4) rfl (by decide)
 have Zp:∃j,i=j+1:=⟨i-1,by omega⟩;obtain⟨j,rfl⟩:=Zp;have ej:((j:Nat):Int)+1-1=(j:Int):=by omega
 push_cast -dsimp[h1,zD,ea,es,ej];refine⟨λgh=>?_,λbZ=>?_⟩
 ·refine⟨⟨by omega,by omega⟩,⟨by omega,by omega⟩,⟨by omega,by omega⟩,?_⟩;rw[Ra d aKi];refine aC hB (by omega) rfl ?_;intro w5 bW;have sz5:w5.heap.size=wx.heap.size:=bW.size;push_cast -dsimp[es];cases f with
  | zero=>exact absurd hm (by omega)
  | succ f =>
   rw[pZ,if_neg (by omega),hq,hd]at hh;refine⟨⟨f,q,j,MY d::acc,_,rfl,rfl,by omega,by omega,?_,hh,by rw[List.length_set];exact lC,?_,bW.aN,bC.trans (bW.kept.below BV (λg hg=>Nat.le_of_eq (Eq.symm hg)))⟩,by rw[zD];simp only[intOf];omega⟩
   ·rw[<-hq];refine Nat.div_lt_of_lt_mul ?_;rw[Nat.mul_comm,<-Nat.pow_succ];exact hm
   rw[List.drop_set,if_neg (by omega),Nat.sub_self,List.drop_eq_getElem_cons (by omega),List.set_cons_zero,hcd,List.map_cons]
 have hh':MY m::acc=fu n:=by
  rw[<-hh];cases f with
  | zero=>rfl
  | succ f=>rw[pZ,if_pos (by omega)]
 have aKO:m<16:=by omega
 refine⟨⟨by omega,by omega⟩,⟨by omega,by omega⟩,⟨by omega,by omega⟩,?_⟩;rw[Ra m aKO];refine aC hB (by omega) rfl ?_;intro w5 bW;have sz5:w5.heap.size=wx.heap.size:=bW.size;push_cast -dsimp;refine Om (n:=65) (s:=1) (e:=5) (by kernel_rfl) (by kernel_rfl) (by kernel_rfl) (by rfl) rfl (by omega) ?_;push_cast -dsimp;have rL:Sl (λ_=>False) 1 (En si) w5 (.slice (some ⟨w.heap.size,j,none⟩) (65-j) (65-j)) (MY m::acc):=by
  refine Yg (f:=λb:UInt8=>.int .u8 (b.toNat:Int)) bW.aN ?_ ?_ ?_
  ·rw[List.drop_set,if_neg (by omega),Nat.sub_self,List.drop_eq_getElem_cons (by omega),List.set_cons_zero,hcd,List.map_cons]
  ·have:=congrArg List.length hcd;rw[List.length_drop,List.length_map,lC]at this;rw[List.length_cons];omega
  have:=congrArg List.length hcd;rw[List.length_drop,List.length_map,lC]at this;rw[List.length_cons];omega
 refine VH (e:=5) (by kernel_rfl) (by kernel_rfl) (by kernel_rfl) rL ?_;push_cast -dsimp;rw[hh'];exact⟨rfl,bC.trans (bW.kept.below BV (λg hg=>Nat.le_of_eq (Eq.symm hg)))⟩
theorem SC (n:Nat)(hn:n<4294967296)(w:World)(h:Db w):bD Tryz.prog 190 [.int .i64 (n:Int),.int .i64 16] w λr w'=>r=str (fu n)/\Below w.heap.size w w':=by
 refine aE Tryz.func190 rfl (by kernel_rfl) [4] rfl ?_;push_cast -dsimp(maxSteps:=4000000) [Tryz.ntmps190];have e1:IntKind.u64.wrap (n:Int)=(n:Int):=by rw[fX,Nat.mod_eq_of_lt (by omega)]
 have e2:decide ((n:Int)<0)=false:=decide_eq_false (by omega);push_cast -dsimp[e1,e2];refine aA (Cp n hn w h) ?_;rintro _ w1 ⟨rfl,hb⟩;push_cast -dsimp;exact hb
theorem xU (n:Nat)(hn:n<4294967296)(w:World)(h:Db w):bD Tryz.prog 158 [.int .i64 (n:Int),.int .i64 16] w λr w'=>r=str (fu n)/\Below w.heap.size w w':=by
 refine aE Tryz.func158 rfl (by kernel_rfl) [4] rfl ?_;push_cast -dsimp(maxSteps:=4000000) [Tryz.ntmps158];refine aA (SC n hn w h) ?_;rintro _ w1 ⟨rfl,hb⟩;push_cast -dsimp;exact hb
theorem Zo (n:Nat)(hn:n<4294967296)(w:World)(h:Db w):bD Tryz.prog 195 [.int .i64 (n:Int)] w λr w'=>r=str (fu n)/\Below w.heap.size w w':=by
 refine aE Tryz.func195 rfl (by kernel_rfl) [2] rfl ?_;push_cast -dsimp(maxSteps:=4000000) [Tryz.ntmps195];refine aA (xU n hn w h) ?_;rintro _ w1 ⟨rfl,hb⟩;push_cast -dsimp;exact hb
end Go.Proofs.YtodeeahdhnjpkaaGreatDoor
end
section
namespace Go.Proofs.YtodeeahdhnjpkaaGreatDoor
open Go.Vc Go.Proofs Go.RowKit
def br (k:Nat):List Value:=[.int .i64 k]
end Go.Proofs.YtodeeahdhnjpkaaGreatDoor
namespace Go.Vc
def encS (b:List UInt8):List Value:=[str b]
end Go.Vc
end
section
namespace Go.Vc
open Go.RowKit
theorem Sl.strs {X:Nat->Prop}{w:World}{v:Value}{x:List UInt8}{l:List (List UInt8)}(h:Sl X 1 (En Vc.encS) w v (x::l)):∃b o c,v=.slice (some ⟨b,o,none⟩) (x::l).length c/\(x::l).length<=c/\b<w.heap.size/\∀(j:Nat) y,((x::l).map λt:List UInt8=>(⟨t.toArray⟩:ByteArray))[j]?=some y->w.cell? ⟨b,o+j,none⟩=some (.string y):=by
 obtain⟨a,c,rfl,hc,AF⟩:=h;have h0:=AF 0 x rfl;obtain⟨b,o,cs,rfl,hb,je,aP,hr⟩:=h0;have cg:∀(j:Nat) y,((x::l).map λt:List UInt8=>(⟨t.toArray⟩:ByteArray))[j]?=some y->w.cell? ⟨b,o+j,none⟩=some (.string y):=by
  intro j y hy;rw[List.getElem?_map]at hy;cases hx:(x::l)[j]? with
  | none=>rw[hx]at hy;cases hy
  | some t =>
   rw[hx]at hy;cases hy;have h1:=AF j t hx;obtain⟨b1,o1,cs1,he,de,aPQ,aBA,NQ⟩:=h1;cases he
   have:=aBA 0 (str t) (by rw[NQ];rfl);rwa [Nat.mul_one,Nat.add_zero]at this
 exact⟨b,o,c,rfl,hc,World.block_lt_of_cell? w _ (cg 0 _ rfl),cg⟩
end Go.Vc
namespace Go.Proofs.YtodeeahdhnjpkaaGreatDoor
open Go.Vc Go.Proofs Go.RowKit Cae
attribute [local irreducible] cw ag aq a8 runK bD Sl Vc.Own vc aW cN ai
def Ax:Go.Shelf.Ren:=⟨λ| 156=>196|165=>225|166=>226|169=>227|240=>237|241=>238|276=>242|277=>243|n=>n,λ| 31=>164|9=>9|3=>3|4=>4|0=>0|20=>20|72=>298|76=>172|70=>296|37=>142|75=>32|127=>306|164=>175|5=>5|80=>76|n=>n,λ| n=>n⟩
theorem aAd:Go.Proofs.Lays.n156 Tryz.prog Ax:={
 mixed:=by kernel_rfl
 f156:=Tryz.func196.trans (congrArg some (by kernel_rfl))
 f165:=Tryz.func225.trans (congrArg some (by kernel_rfl))
 f166:=Tryz.func226.trans (congrArg some (by kernel_rfl))
 f169:=Tryz.func227.trans (congrArg some (by kernel_rfl))
 f240:=Tryz.func237.trans (congrArg some (by kernel_rfl))
 f241:=Tryz.func238.trans (congrArg some (by kernel_rfl))
 f276:=Tryz.func242.trans (congrArg some (by kernel_rfl))
 f277:=Tryz.func243.trans (congrArg some (by kernel_rfl))
 t0:=Tryz.underlying0
 a0:=Tryz.isAgg0
 z0:=Tryz.sizeOf0
 v0:=Tryz.zeroValue0
 t3:=Tryz.underlying3
 a3:=Tryz.isAgg3
 z3:=Tryz.sizeOf3
 v3:=Tryz.zeroValue3
 t4:=Tryz.underlying4
 a4:=Tryz.isAgg4
 z4:=Tryz.sizeOf4
 v4:=Tryz.zeroValue4
 t9:=Tryz.underlying9
 a9:=Tryz.isAgg9
 z9:=Tryz.sizeOf9
 v9:=Tryz.zeroValue9
 t20:=Tryz.underlying20
 a20:=Tryz.isAgg20
 z20:=Tryz.sizeOf20
 v20:=Tryz.zeroValue20
 t31:=Tryz.underlying164
 a31:=Tryz.isAgg164
 z31:=Tryz.sizeOf164
 v31:=Tryz.zeroValue164
 t37:=Tryz.underlying142
 a37:=Tryz.isAgg142
 z37:=Tryz.sizeOf142
 v37:=Tryz.zeroValue142
 t70:=Tryz.underlying296
 a70:=Tryz.isAgg296
 z70:=Tryz.sizeOf296
 v70:=Tryz.zeroValue296
 t72:=Tryz.underlying298
 a72:=Tryz.isAgg298
 z72:=Tryz.sizeOf298
 v72:=Tryz.zeroValue298
 t75:=Tryz.underlying32
 a75:=Tryz.isAgg32
 z75:=Tryz.sizeOf32
 v75:=Tryz.zeroValue32
 t76:=Tryz.underlying172
 a76:=Tryz.isAgg172
 z76:=Tryz.sizeOf172
 v76:=Tryz.zeroValue172
 t127:=Tryz.underlying306
 a127:=Tryz.isAgg306
 z127:=Tryz.sizeOf306
 v127:=Tryz.zeroValue306
 t164:=Tryz.underlying175
 a164:=Tryz.isAgg175
 z164:=Tryz.sizeOf175
 v164:=Tryz.zeroValue175 }
theorem aAe:Builder.Extra Tryz.prog Ax where
 sizeBuilder:=by kernel_rfl
 liesBuilder:=by kernel_rfl
 t5:=by kernel_rfl
 a5:=λw=>(mo (P:=Tryz.prog) (by kernel_rfl) w).1
 z5:=λw=>(mo (P:=Tryz.prog) (by kernel_rfl) w).2
 v5:=by intro w;rfl
 infoByte:=by kernel_rfl
 cellsByte:=by kernel_rfl
 sizeByte:=by kernel_rfl
 neB5:=by decide
theorem aCl (l:List (List UInt8))(sep:List UInt8)(hN:l.length<1000000000)(hlen:(Lib.join l sep).length<=140737488355328)(X:Nat->Prop)(v:Value)(w:World)(hv:Sl X 1 (En Vc.encS) w v l) :
  bD Tryz.prog 196 [v,str sep] w λr w'=>r=str (Lib.join l sep)/\Below w.heap.size w w':=by
 refine bx Tryz.func196 (by kernel_rfl) (by kernel_rfl) ?_;cases l with
 | nil =>
  have eM:=hv.shape;obtain⟨a,c,rfl,hc⟩:=eM;refine Calls.mono (Any.strings_Join_none aAd aAe a c ⟨sep.toArray⟩ w) ?_;rintro e w' ⟨rfl,rfl⟩;exact⟨_,rfl,rfl,Below.refl _ _⟩
 | cons x l =>
  have rL:=hv.strs;obtain⟨b,o,c,rfl,hc,hb,aP⟩:=rL;have e1:(((x::l).map λt:List UInt8=>(⟨t.toArray⟩:ByteArray)).map (·.data.toList))=x::l:=by
   rw[List.map_map];exact List.map_id' _
  have hj:=Any.strings_Join aAd aAe b o c ((x::l).map λt:List UInt8=>(⟨t.toArray⟩:ByteArray)) ⟨sep.toArray⟩ w aP hb (by rw[List.length_map];omega) (by rw[List.length_map];exact hc) (by rw[e1];exact hlen);rw[e1,List.length_map]at hj;refine Calls.mono hj ?_;rintro e w' ⟨rfl,iL⟩;exact⟨_,rfl,rfl,iL⟩
end Go.Proofs.YtodeeahdhnjpkaaGreatDoor
end
section
namespace Cae
def mW (r:Rg):List UInt8:=fu r.1.toNat++(if r.1<r.2 then 45::fu r.2.toNat else [])
def fR (s:List Rg):List UInt8:=91::(Go.Lib.join (s.map mW) [32]++[93])
def Wr (s:List Rg):Prop:=∀r∈s,0<=r.1/\r.1<4294967296/\r.2<4294967296
theorem D8 (r:Rg):(mW r).length<=19:=by
 unfold mW;have h1:=nX r.1.toNat;have h2:=nX r.2.toNat;split<;>simp<;>omega
theorem N5 (s:List Rg):(Go.Lib.join (s.map mW) [32]).length<=20*s.length:=by
 cases s with
 | nil=>simp[Go.Lib.join_nil]
 | cons r s =>
  rw[List.map_cons,Go.Lib.join_cons,List.length_append,Go.Lib.joinTail_length];have h1:=D8 r;have h2:Go.Lib.lens (s.map mW)<=19*s.length:=by
   induction s with
   | nil=>simp[Go.Lib.lens]
   | cons q s ih =>
    have:=D8 q;simp only[Go.Lib.lens,List.map_cons,List.sum_cons,List.length_cons]at ih ⊢
    omega
  simp only[List.length_cons,List.length_nil,List.length_map];omega
theorem zA:∀{s:List Rg} {a:Int},-2<=a->aH a s=true->Wr s
 | [],_,_,_=>λr hr=>by cases hr
 | q::s,a,ha,h=>by
  rw[cE]at h;intro r hr;rcases List.mem_cons.1 hr with rfl|hr
  ·omega
  exact zA (by omega) h.2 r hr
end Cae
namespace Go.Proofs.YtodeeahdhnjpkaaGreatDoor
open Go.Vc Go.Proofs Go.RowKit Cae
attribute [local irreducible] cw ag aq a8 runK bD Sl Vc.Own vc aW cN ai
theorem LY (s:List Rg)(hs:s.length<10000000)(hw:Wr s)(X:Nat->Prop)(v:Value)(w:World)(hv:Sl X 2 (En encR) w v s)(h:Db w) :
  bD Tryz.prog 165 [v] w λr w'=>r=str (fR s)/\Below w.heap.size w w':=by
 obtain⟨a,c,rfl,hc⟩:=hv.shape;refine aE Tryz.func165 rfl (by kernel_rfl) [2] rfl ?_;push_cast -dsimp(maxSteps:=4000000) [Tryz.ntmps165];refine aM [3,5,6,9,10,11,12,13,14,15,16,17,18,19,20,21,22,23,24,25,26,27,28,29,30,31] (λz wx=>∃(i:Nat) (ov:Value),z 9=.int .i64 i/\z 3=ov/\i<=s.length/\Vc.Own w.heap.size 9 1 Vc.encS wx ov ((s.take i).map mW)/\Below w.heap.size w wx) (λz _=>s.length-(intOf (z 9)).toNat) ?_ ?_
 ·exact⟨0,_,rfl,rfl,Nat.zero_le _,Vc.Own.nil (enc:=Vc.encS) _ _ (λ_=>rfl) _,Below.refl _ _⟩
 intro z wx hI;obtain⟨i,ov,h9,h3,hi,rK,bC⟩:=hI;have BV:=bC.size;push_cast -dsimp[h9,h3];refine⟨λbZ=>?_,λgh=>?_⟩
 ·have hg:=bK (l:=s) (i:=i) (by omega);obtain⟨x,hx,lO,_,ht⟩:=hg;have zL:=hv.below bC;have hg:=zL.get hx;obtain⟨b,o,rfl,zJ,aP⟩:=hg;have cx:aB wx ⟨b,o+i*2,none⟩ 0 2=some [.int .i64 x.1,.int .i64 x.2]:=bL (encR x) 0 (λj u hu=>by simpa using aP j u hu);have hxw:=hw x lO;obtain⟨x1,x2,x3⟩:=hxw;have Mm:(s.take (i+1)).map mW=(s.take i).map mW++[mW x]:=by
   rw[ht,List.map_append];rfl
  have hgn:∃n:Nat,x.1=n:=⟨x.1.toNat,by omega⟩;obtain⟨n,hn⟩:=hgn;rw[hn]at cx;push_cast -dsimp[cx];refine⟨⟨by omega,by omega⟩,?_⟩;refine aR (z:=[.int .i64 0,.int .i64 0]) (by kernel_rfl) ?_;intro w3 bO;have Li:=bO.size;push_cast -dsimp;refine aF (n:=2) (by kernel_rfl) bO.aN rfl (by simp) (by simp[Value.oneCell']) ?_;intro w4 aj;have sz4:=aj.size;have c0:w4.cell? ⟨wx.heap.size,0,none⟩=some (.int .i64 (n:Int)):=aj.aN.cell rfl;have c1:w4.cell? ⟨wx.heap.size,1,none⟩=some (.int .i64 x.2):=aj.aN.cell rfl;push_cast -dsimp[c0,c1];have k4:Kept (λj=>j=wx.heap.size) wx w4:=(Kept.new bO).trans aj.kept (λ_ _ h=>h);have Ht:=rK.ak k4 (λg hg h=>by have:=rK.block g hg;omega);have fo:Below w.heap.size w w4:=bC.trans (k4.below BV (λ_ h=>by omega));have eM:=Ht.slice;obtain⟨oa,oc,rfl⟩:=eM;refine aA (Zo n (by omega) w4 (h.below fo h.lt)) ?_;rintro _ w5 ⟨rfl,kU⟩;have sz5:=kU.size;have Vy:=Ht.below kU;have Cr:=fo.trans (kU.mono (show w.heap.size<=w4.heap.size by omega))
  have c5:w5.cell? ⟨wx.heap.size,0,none⟩=some (.int .i64 (n:Int)):=(kU.cell (by show wx.heap.size<w4.heap.size;omega)).trans c0
  have c5':w5.cell? ⟨wx.heap.size,1,none⟩=some (.int .i64 x.2):=(kU.cell (by show wx.heap.size<w4.heap.size;omega)).trans c1
  push_cast -dsimp[c5,c5'];refine⟨λNK=>?_,λhle=>?_⟩
  ·have hgm:∃m:Nat,x.2=m:=⟨x.2.toNat,by omega⟩;obtain⟨m,hm⟩:=hgm;have hrg:mW x=fu n++45::fu m:=by unfold mW;rw[if_pos (by omega),hn,hm];rfl
   rw[hm]at c5';rw[hm];refine aA (Zo m (by omega) w5 (h.below Cr h.lt)) ?_;rintro _ w6 ⟨rfl,jc⟩;have sz6:=jc.size;have GL:=Vy.below jc;have Cs:=Cr.trans (jc.mono (show w.heap.size<=w5.heap.size by omega))
   have Hs:=nX n;have p7:=nX m;push_cast -dsimp;refine⟨by omega,by simp only[List.length_append,List.length_cons,List.length_nil];omega,?_⟩;refine cY wA rfl rfl (by omega) ?_;intro w7 dN;have Yj:w7.heap.size=w6.heap.size+1:=dN.size;have pF:=GL.new dN;push_cast -dsimp;refine ae (base:=w.heap.size) [mW x] (enc:=Vc.encS) wA pF (by rfl) (λj u hu=>by rw[hrg]at hu;rw[Nat.zero_add];exact dN.cell hu) (by simp[Vc.encS,str,Value.oneCell']) (by simp only[List.length_cons,List.length_nil,List.length_map,List.length_take];omega) (by omega) ?_;intro v8 w8 qu EF hn8;have kW:Below w.heap.size w w8:=(Cs.trans (dN.below.mono (by omega))).trans ((Kept.grown (X:=λj=>w.heap.size<=j) EF (λk hk=>(pF.block k hk).1)).below (by omega) (λ_ h=>h));rw[<-Mm]at qu;push_cast -dsimp;exact⟨⟨by omega,by omega⟩,⟨i+1,_,rfl,rfl,by omega,qu,kW⟩,by rw[h9];simp only[intOf];omega⟩
  have hrg:mW x=fu n:=by unfold mW;rw[if_neg (by omega),hn];exact List.append_nil _
  refine cY wA rfl rfl (by omega) ?_;intro w7 dN;have Yj:w7.heap.size=w5.heap.size+1:=dN.size;have pF:=Vy.new dN;push_cast -dsimp;refine ae (base:=w.heap.size) [mW x] (enc:=Vc.encS) wA pF (by rfl) (λj u hu=>by rw[hrg]at hu;rw[Nat.zero_add];exact dN.cell hu) (by simp[Vc.encS,str,Value.oneCell']) (by simp only[List.length_cons,List.length_nil,List.length_map,List.length_take];omega) (by omega) ?_;intro v8 w8 qu EF hn8;have kW:Below w.heap.size w w8:=(Cr.trans (dN.below.mono (by omega))).trans ((Kept.grown (X:=λj=>w.heap.size<=j) EF (λk hk=>(pF.block k hk).1)).below (by omega) (λ_ h=>h));rw[<-Mm]at qu;push_cast -dsimp;exact⟨⟨by omega,by omega⟩,⟨i+1,_,rfl,rfl,by omega,qu,kW⟩,by rw[h9];simp only[intOf];omega⟩
 have NL:i=s.length:=by omega
 subst NL;rw[List.take_length]at rK;have Zs:=N5 s;refine aA (aCl (s.map mW) [32] (by rw[List.length_map];omega) (by omega) _ _ wx rK.sl) ?_;rintro _ w6 ⟨rfl,jc⟩;have Cs:=bC.trans (jc.mono BV);push_cast -dsimp;refine⟨by omega,by simp only[List.length_append,List.length_cons,List.length_nil];omega,?_,Cs⟩;rfl
end Go.Proofs.YtodeeahdhnjpkaaGreatDoor
end
section
namespace Cae
def lj (c:UInt8)(s:List UInt8):List UInt8×List UInt8×Bool:=if s.contains c then (s.takeWhile (· != c),(s.dropWhile (· != c)).drop 1,true) else (s,[],false)
def splitB (c:UInt8):List UInt8->List (List UInt8)
 | []=>[[]]
 | b::r=>if b == c then []::splitB c r else match splitB c r with
  | []=>[[b]]
  | p::ps=>(b::p)::ps
theorem mf (c:UInt8):∀s:List UInt8,Go.Lib.indexByte s c=if s.contains c then ((s.takeWhile (· != c)).length:Int) else -1
 | []=>rfl
 | b::r=>by
  rw[Go.Lib.indexByte,List.contains_cons,mf c r,List.takeWhile_cons];by_cases h:b=c
  ·subst h;simp
  have h1:(b == c)=false:=by simpa using h
  have h2:(c == b)=false:=by simpa using(λe=>h e.symm:¬c=b)
  have h3:(b != c)=true:=by simp[h]
  rw[h1,h2,h3,Bool.false_or];cases hc:r.contains c with
  | true =>
   have:¬((((r.takeWhile (· != c)).length:Nat):Int) == -1)=true:=by simp
   simp only[if_true,if_neg this,Bool.false_eq_true,if_false,List.length_cons];omega
  | false=>simp
theorem wR (p:UInt8->Bool):∀s:List UInt8,s.take (s.takeWhile p).length=s.takeWhile p
 | []=>rfl
 | b::r=>by
  rw[List.takeWhile_cons];split
  ·rw[List.length_cons,List.take_succ_cons,wR p r]
  rfl
theorem CH (p:UInt8->Bool):∀s:List UInt8,s.drop (s.takeWhile p).length=s.dropWhile p
 | []=>rfl
 | b::r=>by
  rw[List.takeWhile_cons,List.dropWhile_cons];split
  ·rw[List.length_cons,List.drop_succ_cons,CH p r]
  rfl
theorem Lm {c:UInt8}:∀{s:List UInt8},s.contains c=true->(s.takeWhile (· != c)).length<s.length
 | [],h=>by cases h
 | b::r,h=>by
  rw[List.takeWhile_cons];split
  ·rename_i hb;have:r.contains c=true:=by
    rw[List.contains_cons,Bool.or_eq_true]at h;rcases h with h|h
    ·have:c=b:=by simpa using h
     subst this;simp at hb
    exact h
   have:=Lm this;simp only[List.length_cons];omega
  simp
theorem KT {c:UInt8}:∀{s:List UInt8},s.contains c=false->s.takeWhile (· != c)=s
 | [],_=>rfl
 | b::r,h=>by
  rw[List.contains_cons,Bool.or_eq_false_iff]at h;have h1:(b != c)=true:=by have:=h.1;simp at this;simp;exact λe=>this e.symm
  rw[List.takeWhile_cons,if_pos h1,KT h.2]
theorem rD (p:UInt8->Bool):∀s:List UInt8,(s.dropWhile p).length<=s.length
 | []=>Nat.le_refl _
 | b::r=>by
  have:=rD p r;rw[List.dropWhile_cons];split<;>simp<;>omega
theorem RR (c:UInt8)(s:List UInt8):(lj c s).1.length<=s.length/\(lj c s).2.1.length<=s.length:=by
 unfold lj;split
 ·rename_i h;have h1:=Lm h;have h2:=rD (· != c) s;refine⟨by show (s.takeWhile (· != c)).length<=_;omega,?_⟩
  show ((s.dropWhile (· != c)).drop 1).length<=_
  rw[List.length_drop];omega
 simp
theorem Ot (c:UInt8):∀s,splitB c s≠[]
 | []=>by simp[splitB]
 | b::r=>by
  rw[splitB];split
  ·simp
  split<;>simp
theorem qb (c:UInt8):∀s:List UInt8,splitB c s=s.takeWhile (· != c)::(if s.contains c then splitB c ((s.dropWhile (· != c)).drop 1) else [])
 | []=>rfl
 | b::r=>by
  rw[splitB,List.takeWhile_cons,List.dropWhile_cons,List.contains_cons];by_cases h:b=c
  ·subst h;simp
  have h1:(b == c)=false:=by simpa using h
  have h2:(c == b)=false:=by simpa using λe=>h e.symm
  have h3:(b != c)=true:=by simp[h]
  rw[h1,h2,h3,Bool.false_or,qb c r];rfl
theorem sG (c:UInt8):∀s:List UInt8,(splitB c s).length<=s.length+1
 | []=>by simp[splitB]
 | b::r=>by
  have h:=sG c r;rw[splitB];split
  ·simp;omega
  cases hs:splitB c r with
  | nil=>simp
  | cons p ps=>rw[hs]at h;simp at h ⊢;omega
theorem oY (c:UInt8):∀(s p:List UInt8),p∈splitB c s->p.length<=s.length
 | [],p,h=>by simp[splitB]at h;subst h;simp
 | b::r,p,h=>by
  rw[splitB]at h;split at h
  ·rcases List.mem_cons.1 h with rfl|h
   ·simp
   have:=oY c r p h;simp;omega
  cases hs:splitB c r with
  | nil=>exact absurd hs (Ot c r)
  | cons q qs =>
   rw[hs]at h;rcases List.mem_cons.1 h with rfl|h
   ·have:=oY c r q (by rw[hs];simp);simp;omega
   have:=oY c r p (by rw[hs];simp[h]);simp;omega
end Cae
namespace Go.Proofs.YtodeeahdhnjpkaaGreatDoor
open Go.Vc Go.Proofs Go.RowKit Cae
attribute [local irreducible] cw ag aq a8 runK bD Sl Vc.Own vc aW cN ai
def JY:Go.Shelf.Ren:=⟨λ| 143=>48|219=>82|217=>107|225=>108|224=>109|267=>110|266=>144|314=>145|n=>n,λ| 9=>9|3=>3|4=>4|5=>5|46=>109|146=>209|51=>206|n=>n,λ| 1=>2|n=>n⟩
theorem aCh:Go.Proofs.Lays.n143 Tryz.prog JY:={
 mixed:=by kernel_rfl
 f143:=Tryz.func48.trans (congrArg some (by kernel_rfl))
 f217:=Tryz.func107.trans (congrArg some (by kernel_rfl))
 f219:=Tryz.func82.trans (congrArg some (by kernel_rfl))
 f224:=Tryz.func109.trans (congrArg some (by kernel_rfl))
 f225:=Tryz.func108.trans (congrArg some (by kernel_rfl))
 f266:=Tryz.func144.trans (congrArg some (by kernel_rfl))
 f267:=Tryz.func110.trans (congrArg some (by kernel_rfl))
 f314:=Tryz.func145.trans (congrArg some (by kernel_rfl))
 t3:=Tryz.underlying3
 a3:=Tryz.isAgg3
 z3:=Tryz.sizeOf3
 v3:=Tryz.zeroValue3
 t4:=Tryz.underlying4
 a4:=Tryz.isAgg4
 z4:=Tryz.sizeOf4
 v4:=Tryz.zeroValue4
 t5:=Tryz.underlying5
 a5:=Tryz.isAgg5
 z5:=Tryz.sizeOf5
 v5:=Tryz.zeroValue5
 t9:=Tryz.underlying9
 a9:=Tryz.isAgg9
 z9:=Tryz.sizeOf9
 v9:=Tryz.zeroValue9
 t46:=Tryz.underlying109
 a46:=Tryz.isAgg109
 z46:=Tryz.sizeOf109
 v46:=Tryz.zeroValue109
 t51:=Tryz.underlying206
 a51:=Tryz.isAgg206
 z51:=Tryz.sizeOf206
 v51:=Tryz.zeroValue206
 t146:=Tryz.underlying209
 a146:=Tryz.isAgg209
 z146:=Tryz.sizeOf209
 v146:=Tryz.zeroValue209
 g1:=by kernel_rfl }
def GU:Go.Shelf.Ren:=⟨λ| 219=>82|217=>107|225=>108|224=>109|267=>110|266=>144|314=>145|n=>n,λ| 9=>9|3=>3|4=>4|5=>5|46=>109|146=>209|51=>206|n=>n,λ| 1=>2|n=>n⟩
theorem X8:Go.Proofs.Lays.n219 Tryz.prog GU:={
 mixed:=by kernel_rfl
 f217:=Tryz.func107.trans (congrArg some (by kernel_rfl))
 f219:=Tryz.func82.trans (congrArg some (by kernel_rfl))
 f224:=Tryz.func109.trans (congrArg some (by kernel_rfl))
 f225:=Tryz.func108.trans (congrArg some (by kernel_rfl))
 f266:=Tryz.func144.trans (congrArg some (by kernel_rfl))
 f267:=Tryz.func110.trans (congrArg some (by kernel_rfl))
 f314:=Tryz.func145.trans (congrArg some (by kernel_rfl))
 t3:=Tryz.underlying3
 a3:=Tryz.isAgg3
 z3:=Tryz.sizeOf3
 v3:=Tryz.zeroValue3
 t4:=Tryz.underlying4
 a4:=Tryz.isAgg4
 z4:=Tryz.sizeOf4
 v4:=Tryz.zeroValue4
 t5:=Tryz.underlying5
 a5:=Tryz.isAgg5
 z5:=Tryz.sizeOf5
 v5:=Tryz.zeroValue5
 t9:=Tryz.underlying9
 a9:=Tryz.isAgg9
 z9:=Tryz.sizeOf9
 v9:=Tryz.zeroValue9
 t46:=Tryz.underlying109
 a46:=Tryz.isAgg109
 z46:=Tryz.sizeOf109
 v46:=Tryz.zeroValue109
 t51:=Tryz.underlying206
 a51:=Tryz.isAgg206
 z51:=Tryz.sizeOf206
 v51:=Tryz.zeroValue206
 t146:=Tryz.underlying209
 a146:=Tryz.isAgg209
 z146:=Tryz.sizeOf209
 v146:=Tryz.zeroValue209
 g1:=by kernel_rfl }
def Ek:Go.Shelf.Ren:=⟨λ| 103=>160|210=>191|206=>222|n=>n,λ| 9=>9|4=>4|24=>224|3=>3|n=>n,λ| n=>n⟩
theorem Wo:Go.Proofs.Lays.n103 Tryz.prog Ek:={
 mixed:=by kernel_rfl
 f103:=Tryz.func160.trans (congrArg some (by kernel_rfl))
 f206:=Tryz.func222.trans (congrArg some (by kernel_rfl))
 f210:=Tryz.func191.trans (congrArg some (by kernel_rfl))
 t3:=Tryz.underlying3
 a3:=Tryz.isAgg3
 z3:=Tryz.sizeOf3
 v3:=Tryz.zeroValue3
 t4:=Tryz.underlying4
 a4:=Tryz.isAgg4
 z4:=Tryz.sizeOf4
 v4:=Tryz.zeroValue4
 t9:=Tryz.underlying9
 a9:=Tryz.isAgg9
 z9:=Tryz.sizeOf9
 v9:=Tryz.zeroValue9
 t24:=Tryz.underlying224
 a24:=Tryz.isAgg224
 z24:=Tryz.sizeOf224
 v24:=Tryz.zeroValue224 }
def El:Go.Shelf.Ren:=⟨λ| 104=>161|211=>192|207=>223|n=>n,λ| 9=>9|4=>4|24=>224|3=>3|n=>n,λ| n=>n⟩
theorem Wp:Go.Proofs.Lays.n104 Tryz.prog El:={
 mixed:=by kernel_rfl
 f104:=Tryz.func161.trans (congrArg some (by kernel_rfl))
 f207:=Tryz.func223.trans (congrArg some (by kernel_rfl))
 f211:=Tryz.func192.trans (congrArg some (by kernel_rfl))
 t3:=Tryz.underlying3
 a3:=Tryz.isAgg3
 z3:=Tryz.sizeOf3
 v3:=Tryz.zeroValue3
 t4:=Tryz.underlying4
 a4:=Tryz.isAgg4
 z4:=Tryz.sizeOf4
 v4:=Tryz.zeroValue4
 t9:=Tryz.underlying9
 a9:=Tryz.isAgg9
 z9:=Tryz.sizeOf9
 v9:=Tryz.zeroValue9
 t24:=Tryz.underlying224
 a24:=Tryz.isAgg224
 z24:=Tryz.sizeOf224
 v24:=Tryz.zeroValue224 }
theorem Kz (s:List UInt8)(c:UInt8)(w:World):bD Tryz.prog 48 [str s,str [c]] w λr w'=>r=.int .i64 (Lib.indexByte s c)/\w'=w:=by
 refine bx Tryz.func48 (by kernel_rfl) (by kernel_rfl) ?_;refine Calls.mono (Any.strings_Index_one aCh ⟨s.toArray⟩ c w) ?_;rintro e w' ⟨rfl,rfl⟩;exact⟨_,rfl,rfl,rfl⟩
theorem X9 (s:List UInt8)(c:UInt8)(w:World):bD Tryz.prog 82 [str s,str [c]] w λr w'=>r=.int .i64 (Lib.indexByte s c)/\w'=w:=by
 refine bx Tryz.func82 (by kernel_rfl) (by kernel_rfl) ?_;refine Calls.mono (Any.stringslite_Index_one X8 ⟨s.toArray⟩ c w) ?_;rintro e w' ⟨rfl,rfl⟩;exact⟨_,rfl,rfl,rfl⟩
theorem RT (s p:List UInt8)(w:World):bD Tryz.prog 160 [str s,str p] w λr w'=>r=.tuple #[str (Lib.trimPrefix s p),.bool (Lib.hasPrefix s p)]/\w'=w:=by
 refine bx Tryz.func160 (by kernel_rfl) (by kernel_rfl) ?_;refine Calls.mono (Any.strings_CutPrefix Wo ⟨s.toArray⟩ ⟨p.toArray⟩ w) ?_;rintro e w' ⟨rfl,rfl⟩;exact⟨_,rfl,rfl,rfl⟩
theorem RV (s p:List UInt8)(hs:s.length<=9223372036854775807)(w:World):bD Tryz.prog 161 [str s,str p] w λr w'=>r=.tuple #[str (Lib.trimSuffix s p),.bool (Lib.hasSuffix s p)]/\w'=w:=by
 refine bx Tryz.func161 (by kernel_rfl) (by kernel_rfl) ?_;refine Calls.mono (Any.strings_CutSuffix Wp ⟨s.toArray⟩ ⟨p.toArray⟩ w hs) ?_;rintro e w' ⟨rfl,rfl⟩;exact⟨_,rfl,rfl,rfl⟩
theorem aE1 (s:List UInt8)(c:UInt8)(hs:s.length<=1000000000)(w:World):bD Tryz.prog 194 [str s,str [c]] w λr w'=>r=.tuple #[str (lj c s).1,str (lj c s).2.1,.bool (lj c s).2.2]/\Below w.heap.size w w':=by
 refine aE Tryz.func194 rfl (by kernel_rfl) [4,5,6] rfl ?_;push_cast -dsimp(maxSteps:=4000000) [Tryz.ntmps194];refine aA (X9 s c w) ?_;rintro _ w1 ⟨rfl,rfl⟩;rw[mf];unfold lj;cases hc:s.contains c with
 | false =>
  simp only[Bool.false_eq_true,if_false];push_cast -dsimp;exact Below.refl _ _
 | true =>
  simp only[if_true];have bZ:=Lm hc;have hg:∃k,(s.takeWhile (· != c)).length=k:=⟨_,rfl⟩;obtain⟨k,hk⟩:=hg;have h1:s.takeWhile (· != c)=s.take k:=by rw[<-hk];exact(wR _ s).symm
  have h2:(s.dropWhile (· != c)).drop 1=s.drop (k+1):=by rw[<-CH,List.drop_drop,hk]
  rw[h1,h2];rw[hk]at bZ;have h3:(s.take k).length=k:=by rw[List.length_take];omega
  rw[h3];have gh:decide ((k:Int)>=0)=true:=decide_eq_true (by omega);push_cast -dsimp[gh];refine aX (λ_=>True) mixed (by kernel_rfl) trivial ?_;push_cast -dsimp;refine⟨by omega,by omega,by omega,?_,(Below.refl _ _).drew⟩;rw[show ((k:Int)+1).toNat=k+1 by omega]
theorem aE0 (s:List UInt8)(c:UInt8)(hs:s.length<=1000000000)(w:World):bD Tryz.prog 163 [str s,str [c]] w λr w'=>r=.tuple #[str (lj c s).1,str (lj c s).2.1,.bool (lj c s).2.2]/\Below w.heap.size w w':=by
 refine aE Tryz.func163 rfl (by kernel_rfl) [4,5,6] rfl ?_;push_cast -dsimp(maxSteps:=4000000) [Tryz.ntmps163];refine aA (aE1 s c hs w) ?_;rintro _ w1 ⟨rfl,hb⟩;push_cast -dsimp;exact hb
end Go.Proofs.YtodeeahdhnjpkaaGreatDoor
end
section
namespace Go.Vc
open Go.RowKit
def Byt (w:World)(b:Nat)(e:TypeId)(l:List UInt8):Prop :=
 ∃(cs:Array Value) (n:Nat),w.heap[b]?=some (.cells cs e (n,n+1))/\cs.size<=n/\∀(j:Nat) (c:UInt8),l[j]?=some c->cs[j]?=some (Value.int IntKind.u8 (c.toNat:Int))
theorem Byt.cell {w:World}{b:Nat}{e:TypeId}{l:List UInt8}(h:Byt w b e l){j:Nat}{c:UInt8}(hc:l[j]?=some c):w.cell? ⟨b,j,none⟩=some (.int .u8 (c.toNat:Int)):=by
 obtain⟨cs,n,h,_,hh⟩:=h;simp[World.cell?,h,hh j c hc]
theorem aAJ {P:Program}{s d e:TypeId}{l:List UInt8}{t:Fr}{w:World}{K:VK}{Q:EP}{p}(hs:P.underlying s=some .string)(hd:P.underlying d=some (.slice e))(he:P.underlying e=some (.int .u8))
  (kk:∀c w',l.length<=c->Byt w' w.heap.size e l->Below w.heap.size w w'->K (.slice (some ⟨w.heap.size,0,none⟩) l.length c) w'):aq P (convert s d (str l)) t w K Q p:=by
 have hr:=run_bytes_of_string (P:=P) w s d e ⟨l.toArray⟩ hs hd he;have Au:ByteArray.size ⟨l.toArray⟩=l.length:=by simp[ByteArray.size]
 refine dq hr ?_;rw[Au];refine kk _ _ (grownCap_ge _ _ _ _) ⟨bytesRow ⟨l.toArray⟩ (grownCap w l.length 0 e),(bytesRow ⟨l.toArray⟩ (grownCap w l.length 0 e)).size,?_,Nat.le_refl _,λj c hj=>?_⟩ ((Below.refl w.heap.size w).drew.alloc (Nat.le_refl _) _)
 ·exact heap_alloc_new w.drew _
 have bZ:=(List.getElem?_eq_some_iff.1 hj).1
 have:=bytesRow_at ⟨l.toArray⟩ (grownCap w l.length 0 e) j (by simpa using bZ);rw[this];have:l[j]?=some l[j]:=List.getElem?_eq_getElem bZ;rw[this]at hj;cases hj;simp
end Go.Vc
end
section
namespace Cae
def dv (b:UInt8):Nat:=if b.toNat<=57 then b.toNat-48 else b.toNat-87
def kO (b:UInt8):Bool:=(decide (48<=b.toNat) && decide (b.toNat<=57)) || (decide (97<=b.toNat) && decide (b.toNat<=102))
def ic (l:List UInt8):Nat:=l.foldl (λm b=>16*m+dv b) 0
theorem qT:∀d:Nat,d<16->kO (MY d)=true/\dv (MY d)=d:=by decide
theorem Fw:∀(f n:Nat) (acc:List UInt8),n<16 ^ (f+1)->(∀b∈acc,kO b=true)->∀b∈pZ f n acc,kO b=true
 | 0,n,acc,hn,h=>by
  rw[pZ];intro b hb;rcases List.mem_cons.1 hb with rfl|hb
  ·exact(qT n (by omega)).1
  exact h b hb
 | f+1,n,acc,hn,h=>by
  rw[pZ];split
  ·intro b hb;rcases List.mem_cons.1 hb with rfl|hb
   ·exact(qT n (by omega)).1
   exact h b hb
  refine Fw f (n / 16) _ (Nat.div_lt_of_lt_mul (by rw[Nat.mul_comm,<-Nat.pow_succ];exact hn)) ?_;intro b hb;rcases List.mem_cons.1 hb with rfl|hb
  ·exact(qT (n % 16) (by omega)).1
  exact h b hb
theorem Ah (l:List UInt8):∀m:Nat,l.foldl (λm b=>16*m+dv b) m=16 ^ l.length*m+ic l:=by
 unfold ic;induction l with
 | nil=>intro m;simp
 | cons b l ih =>
  intro m;rw[List.foldl_cons,List.foldl_cons,ih,ih (16*0+dv b),List.length_cons,Nat.pow_succ,Nat.mul_add];have:16 ^ l.length*(16*m)=16 ^ l.length*16*m:=by rw[Nat.mul_assoc]
  rw[this];simp;omega
theorem uF (b:UInt8)(l:List UInt8):ic (b::l)=16 ^ l.length*dv b+ic l:=by
 have:=Ah l (16*0+dv b);unfold ic at this ⊢
 rw[List.foldl_cons,this];simp
theorem GA:∀(f n:Nat) (acc:List UInt8),n<16 ^ (f+1)->ic (pZ f n acc)=16 ^ acc.length*n+ic acc
 | 0,n,acc,hn=>by rw[pZ,uF,(qT n (by omega)).2]
 | f+1,n,acc,hn=>by
  rw[pZ];split
  ·rw[uF,(qT n (by omega)).2]
  rw[GA f (n / 16) _ (Nat.div_lt_of_lt_mul (by rw[Nat.mul_comm,<-Nat.pow_succ];exact hn)),uF,(qT (n % 16) (by omega)).2,List.length_cons,Nat.pow_succ];have h1:=Nat.div_add_mod n 16;have h2:16 ^ acc.length*n=16 ^ acc.length*16*(n / 16)+16 ^ acc.length*(n % 16):=by
   rw[Nat.mul_assoc,<-Nat.mul_add,h1]
  rw[h2];omega
theorem fG {n:Nat}(hn:n<4294967296):∀b∈fu n,kO b=true:=Fw 8 n [] (by omega) (λb h=>by cases h)
theorem j4 {n:Nat}(hn:n<4294967296):ic (fu n)=n:=by
 unfold fu;rw[GA 8 n [] (by omega)];simp[ic]
theorem Kv:∀(f n:Nat) (acc:List UInt8),pZ f n acc≠[]
 | 0,n,acc=>by rw[pZ];simp
 | f+1,n,acc=>by
  rw[pZ];split
  ·simp
  exact Kv f _ _
theorem wE (n:Nat):fu n≠[]:=Kv 8 n []
theorem Ao (l:List UInt8)(b:UInt8):ic (l++[b])=16*ic l+dv b:=by
 unfold ic;rw[List.foldl_append];rfl
theorem Ap (l:List UInt8)(i:Nat):ic (l.take i)<=ic l:=by
 have e:=Ah (l.drop i) (ic (l.take i));have h0:ic l=16 ^ (l.drop i).length*ic (l.take i)+ic (l.drop i):=by
  rw[<-e]
  conv=>lhs;rw[<-List.take_append_drop i l]
  unfold ic;rw[List.foldl_append]
 have h1:1<=16 ^ (l.drop i).length:=Nat.pos_of_ne_zero (by simp);rw[h0];exact Nat.le_trans (Nat.le_mul_of_pos_left (ic (l.take i)) h1) (Nat.le_add_right _ _)
end Cae
namespace Go.Vc
open Go.RowKit
theorem aAZ {L:VP}{other:Prop}(ty v ty' v' c)(p):cd 1 c .eql (.iface ty v) (.iface ty' v') L other p=other:=(rfl)
theorem YK {L:VP}{other:Prop}(ty v ty' v' c)(p):cd 1 c .neq (.iface ty v) (.iface ty' v') L other p=other:=(rfl)
attribute [push_cast] aAZ YK
theorem lW {P:Program}{o:Oper}{t:Fr}{w:World}{K:VK}{Q:EP}{ty:TypeId}{x y:Operand}{z:TypeId}{te:TypeId}{k q:IntKind}{a b:Int}{ms:Array (String×TypeId)}(ho:o.op=.binOp .neq ty x y z)(hx:ev t x=.iface te (.int k a))(hy:ev t y=.iface te (.int k b))
  (ht:P.underlying ty=some (.interface ms)) (hc:(P.info? te).map (·.comparable)=some true) (he:P.underlying te=some (.int q)) (kk:K (.bool (!(a == b))) w):runK P o t w K Q .mk:=by
 refine gA (s:=do eqGuard .neq ty x y (ev t x) (ev t y);binOp .neq ty (ev t x) (ev t y)) (by unfold execOp;simp only[ho]) (dq (w':=w) ?_ kk);rw[Sem.run_bind,my (.inl (by rw[hx];simp)) (by intro c;rw[hx];simp)]
 show (binOp .neq ty (ev t x) (ev t y)).run P w=_
 rw[hx,hy];exact Lib.run_neq_iface_int w a b ht hc he
end Go.Vc
namespace Go.Proofs.YtodeeahdhnjpkaaGreatDoor
open Go.Vc Go.Proofs Go.RowKit Cae
attribute [local irreducible] cw ag aq a8 runK bD Sl Vc.Own vc aW cN ai
theorem aHc:∀b:Nat,b<256->0<=eJ .or .u8 (b:Int) 32/\eJ .or .u8 (b:Int) 32<=255/\(97<=b->b<=102->eJ .or .u8 (b:Int) 32=b)/\(b<48->eJ .or .u8 (b:Int) 32<97)/\(b=95->eJ .or .u8 (b:Int) 32=127):=by decide +kernel
theorem lR (b:Int)(w:World):bD Tryz.prog 213 [.int .u8 b] w λr w'=>r=.int .u8 (eJ .or .u8 b 32)/\w'=w:=by
 refine aE Tryz.func213 rfl (by kernel_rfl) [2] rfl ?_;push_cast -dsimp(maxSteps:=4000000) [Tryz.ntmps213]
def aEF (e:Value):Prop:=e=.nilIface\/e=.iface 259 (.int .i64 1)\/e=.iface 259 (.int .i64 2)
theorem qB (bits:Int)(kM:bits=32\/bits=40)(s:List UInt8)(hs:s.length<=1000000000)(w:World):bD Tryz.prog 185 [str s,.int .i64 16,.int .i64 bits] w λr w'=>(∃(v:Nat) (e:Value),r=.tuple #[.int .u64 (v:Int),e]/\v<1099511627776/\aEF e/\(∀n<4294967296,s=fu n->v=n/\e=.nilIface))/\Below w.heap.size w w':=by
 refine aE Tryz.func185 rfl (by kernel_rfl) [6,7] rfl ?_;push_cast -dsimp(maxSteps:=4000000) [Tryz.ntmps185];by_cases dA:s=[]
 ·subst dA;have e0:decide (([]:List UInt8)=[])=true:=rfl;push_cast -dsimp(maxSteps:=4000000) [e0];refine⟨⟨0,_,rfl,by omega,.inr (.inr rfl),λn _ h=>absurd h.symm (wE n)⟩,Below.refl _ _⟩
 have ef:decide False=false:=rfl;have emx:∃mx:Nat,IntKind.u64.wrap (IntKind.u64.wrap (1*2 ^ min (IntKind.u64.wrap bits).toNat IntKind.u64.bits)-1)=(mx:Int)/\4294967295<=mx/\mx<1099511627776:=by
  rcases kM with rfl|rfl
  ·exact⟨4294967295,by decide,by omega,by omega⟩
  exact⟨1099511627775,by decide,by omega,by omega⟩
 obtain⟨mx,emx,aQy,aQz⟩:=emx;push_cast -dsimp(maxSteps:=4000000) [ef];refine⟨λh=>absurd h dA,λ_=>⟨λh=>by omega,λ_=>⟨λ_=>⟨λh=>by omega,λ_=>⟨by rcases kM with rfl|rfl<;>decide,?_⟩⟩,λh=>by omega⟩⟩⟩;rw[emx];refine aAJ (e:=5) (by kernel_rfl) (by kernel_rfl) (by kernel_rfl) ?_;intro cap w1 aKe iK de;have sT:=de.size;push_cast -dsimp(maxSteps:=4000000) [ef];refine aM [6,7,12,13,15,16,17,101,102,103,104,105,106,107,108,109,110,111,112,113,114,115,116,117,118,119,120,121,122,123,124,125,126,127,128,129,130,131,132,133,134,135,136,137,138,139,140,141,142,143,144,145,146,147,148,149,150,151,152,153,154,155,156,157,158,159,160,161,162,163] (λz wx=>∃(i m:Nat),z 101=.int .i64 (i:Int)/\z 13=.int .u64 (m:Int)/\z 12=.bool false/\i<=s.length/\m<=mx/\((∀b∈s,kO b=true)->ic s<4294967296->m=ic (s.take i))/\Below w.heap.size w wx/\Byt wx w.heap.size 5 s) (λz _=>s.length-(intOf (z 101)).toNat) ?_ ?_
 ·exact⟨0,0,rfl,rfl,rfl,Nat.zero_le _,by omega,λ_ _=>rfl,de,iK⟩
 intro z wx hI;obtain⟨i,m,aA9,zD,F0,hi,hm,hv,bC,EA⟩:=hI;push_cast -dsimp(maxSteps:=4000000) [aA9,zD,F0,ef];refine⟨λbZ=>?_,λgh=>?_⟩
 ·have hg:=bK (l:=s) (i:=i) (by omega);obtain⟨x,hx,lO,hxd,hxt⟩:=hg;have cx:=EA.cell hx;have kW:x.toNat<256:=x.toNat_lt;have rj:=aHc x.toNat kW;have AH:(∀b∈s,kO b=true)->kO x=true:=λh=>h x lO;have Sc:dv x=if x.toNat<=57 then x.toNat-48 else x.toNat-87:=rfl
  have GD:kO x=((decide (48<=x.toNat) && decide (x.toNat<=57)) || (decide (97<=x.toNat) && decide (x.toNat<=102))):=rfl;have vh:∃b,x.toNat=b:=⟨_,rfl⟩;obtain⟨b,hb⟩:=vh;rw[hb]at cx kW rj Sc GD;have hgl:∃l,eJ .or .u8 (b:Int) 32=l:=⟨_,rfl⟩;obtain⟨l,hl⟩:=hgl;rw[hl]at rj;have hgl:∃lo:Nat,l=(lo:Int):=⟨l.toNat,by omega⟩;obtain⟨lo,ri⟩:=hgl;subst ri;have ql:decide ((m:Int)>=1152921504606846976)=false:=decide_eq_false (by omega);have Za:IntKind.u8.wrap 16=16:=by decide
  have Wu:IntKind.u64.wrap 16=16:=by decide
  have hgk:∃k,16*m=k:=⟨_,rfl⟩;obtain⟨k,hk⟩:=hgk;have ek:IntKind.u64.wrap ((m:Int)*16)=(k:Int):=by
   rw[show (m:Int)*16=(k:Int) by omega,fX,Nat.mod_eq_of_lt (by omega)]
  refine⟨by omega,?_⟩;obtain⟨sR,Hs,p7,hl3,Vx⟩:=rj;by_cases hA:48<=b/\b<=57
  ·have MZ:decide ((b:Int)=95)=false:=decide_eq_false (by omega);have e1:decide (48<=(b:Int))=true:=decide_eq_true (by omega);have e2:decide ((b:Int)<=57)=true:=decide_eq_true (by omega);have hgd:∃dn:Nat,b-48=dn:=⟨_,rfl⟩;obtain⟨dn,aF7⟩:=hgd;have edn:IntKind.u8.wrap ((b:Int)-48)=(dn:Int):=by
    rw[show (b:Int)-48=(dn:Int) by omega,iH,Nat.mod_eq_of_lt (by omega)]
   have hdn:kO x=true->dn=dv x:=λ_=>by rw[Sc,if_pos hA.2];exact aF7.symm
   by_cases hd:dn<16
   ·have ed:decide ((dn:Int)>=16)=false:=decide_eq_false (by omega);have Rh:IntKind.u64.wrap (dn:Int)=(dn:Int):=by rw[fX,Nat.mod_eq_of_lt (by omega)]
    have uH:∃q,k+dn=q:=⟨_,rfl⟩;obtain⟨q,hq⟩:=uH;have eq:IntKind.u64.wrap ((k:Int)+(dn:Int))=(q:Int):=by
     rw[show (k:Int)+(dn:Int)=(q:Int) by omega,fX,Nat.mod_eq_of_lt (by omega)]
    have elt:decide ((q:Int)<(k:Int))=false:=decide_eq_false (by omega);have Sr:(∀b∈s,kO b=true)->ic s<4294967296->q=ic (s.take (i+1)):=λh1 h2=>by
     have:=hv h1 h2;have h3:=hdn (AH h1);rw[hxt,Ao,<-this,<-h3];omega
    by_cases hr:q<=mx
    ·have Ih:decide ((q:Int)>(mx:Int))=false:=decide_eq_false (by omega);push_cast -dsimp(maxSteps:=4000000) [cx,ed,ql,Za,Wu,ek,Rh,eq,elt,Ih,ef,MZ,e1,e2,edn];exact⟨⟨by omega,by omega⟩,⟨i+1,q,rfl,rfl,by omega,hr,Sr,bC,EA⟩,by rw[aA9];simp only[intOf];omega⟩
    have Ih:decide ((q:Int)>(mx:Int))=true:=decide_eq_true (by omega);push_cast -dsimp(maxSteps:=4000000) [cx,ed,ql,Za,Wu,ek,Rh,eq,elt,Ih,ef,MZ,e1,e2,edn];refine⟨⟨mx,_,rfl,by omega,.inr (.inl rfl),λn hn h=>?_⟩,bC⟩;have h1:=Sr (by rw[h];exact fG hn) (by rw[h,j4 hn];exact hn);have h2:=Ap s (i+1);have h3:=j4 hn;rw[<-h]at h3;omega
   have ed:decide ((dn:Int)>=16)=true:=decide_eq_true (by omega);push_cast -dsimp(maxSteps:=4000000) [cx,ed,Za,ef,MZ,e1,e2,edn];refine⟨⟨0,_,rfl,by omega,.inr (.inr rfl),λn hn h=>?_⟩,bC⟩;have h3:=hdn (AH (by rw[h];exact fG hn));have h4:=AH (by rw[h];exact fG hn);rw[GD,Bool.or_eq_true,Bool.and_eq_true,Bool.and_eq_true,decide_eq_true_eq,decide_eq_true_eq,decide_eq_true_eq,decide_eq_true_eq]at h4;rw[Sc]at h3;split at h3<;>omega
  by_cases hB:97<=lo/\lo<=122
  ·have MZ:decide ((b:Int)=95)=false:=decide_eq_false (λh=>by have:=Vx (by omega);omega);have e1:decide (48<=(b:Int))=true:=decide_eq_true (Classical.byContradiction λh=>by have:=hl3 (by omega);omega);have e2:decide ((b:Int)<=57)=false:=decide_eq_false (λh=>hA ⟨Classical.byContradiction λh=>by have:=hl3 (by omega);omega,by omega⟩);have e3:decide (97<=(lo:Int))=true:=decide_eq_true (by omega);have e4:decide ((lo:Int)<=122)=true:=decide_eq_true (by omega);have hgd:∃dn:Nat,lo-87=dn:=⟨_,rfl⟩;obtain⟨dn,aF7⟩:=hgd;have aKv:∃l2:Nat,lo-97=l2:=⟨_,rfl⟩;obtain⟨l2,aQj⟩:=aKv;have edn:IntKind.u8.wrap ((lo:Int)-97)=(l2:Int):=by
    rw[show (lo:Int)-97=(l2:Int) by omega,iH,Nat.mod_eq_of_lt (by omega)]
   have aAV:IntKind.u8.wrap ((l2:Int)+10)=(dn:Int):=by
    rw[show (l2:Int)+10=(dn:Int) by omega,iH,Nat.mod_eq_of_lt (by omega)]
   have hdn:kO x=true->dn=dv x:=λh=>by
    rw[GD,Bool.or_eq_true,Bool.and_eq_true,Bool.and_eq_true,decide_eq_true_eq,decide_eq_true_eq,decide_eq_true_eq,decide_eq_true_eq]at h;have h5:=p7 (by omega) (by omega);rw[Sc,if_neg (by omega)];omega
   push_cast -dsimp(maxSteps:=4000000) [cx,MZ,e1,e2,ef];refine aA (lR (b:Int) wx) ?_;rintro _ w2 ⟨rfl,rfl⟩;rw[hl];push_cast -dsimp(maxSteps:=4000000) [e3,ef];refine aA (lR (b:Int) w2) ?_;rintro _ w3 ⟨rfl,rfl⟩;rw[hl];push_cast -dsimp(maxSteps:=4000000) [e4,ef];refine aA (lR (b:Int) w3) ?_;rintro _ w4 ⟨rfl,rfl⟩;rw[hl];by_cases hd:dn<16
   ·have ed:decide ((dn:Int)>=16)=false:=decide_eq_false (by omega);have Rh:IntKind.u64.wrap (dn:Int)=(dn:Int):=by rw[fX,Nat.mod_eq_of_lt (by omega)]
    have uH:∃q,k+dn=q:=⟨_,rfl⟩;obtain⟨q,hq⟩:=uH;have eq:IntKind.u64.wrap ((k:Int)+(dn:Int))=(q:Int):=by
     rw[show (k:Int)+(dn:Int)=(q:Int) by omega,fX,Nat.mod_eq_of_lt (by omega)]
    have elt:decide ((q:Int)<(k:Int))=false:=decide_eq_false (by omega);have Sr:(∀b∈s,kO b=true)->ic s<4294967296->q=ic (s.take (i+1)):=λh1 h2=>by
     have:=hv h1 h2;have h3:=hdn (AH h1);rw[hxt,Ao,<-this,<-h3];omega
    by_cases hr:q<=mx
    ·have Ih:decide ((q:Int)>(mx:Int))=false:=decide_eq_false (by omega);push_cast -dsimp(maxSteps:=4000000) [cx,ed,ql,Za,Wu,ek,Rh,eq,elt,Ih,ef,edn,aAV];exact⟨⟨by omega,by omega⟩,⟨i+1,q,rfl,rfl,by omega,hr,Sr,bC,EA⟩,by rw[aA9];simp only[intOf];omega⟩
    have Ih:decide ((q:Int)>(mx:Int))=true:=decide_eq_true (by omega);push_cast -dsimp(maxSteps:=4000000) [cx,ed,ql,Za,Wu,ek,Rh,eq,elt,Ih,ef,edn,aAV];refine⟨⟨mx,_,rfl,by omega,.inr (.inl rfl),λn hn h=>?_⟩,bC⟩;have h1:=Sr (by rw[h];exact fG hn) (by rw[h,j4 hn];exact hn);have h2:=Ap s (i+1);have h3:=j4 hn;rw[<-h]at h3;omega
   have ed:decide ((dn:Int)>=16)=true:=decide_eq_true (by omega);push_cast -dsimp(maxSteps:=4000000) [cx,ed,Za,ef,edn,aAV];refine⟨⟨0,_,rfl,by omega,.inr (.inr rfl),λn hn h=>?_⟩,bC⟩;have h3:=hdn (AH (by rw[h];exact fG hn));have h4:=AH (by rw[h];exact fG hn);rw[GD,Bool.or_eq_true,Bool.and_eq_true,Bool.and_eq_true,decide_eq_true_eq,decide_eq_true_eq,decide_eq_true_eq,decide_eq_true_eq]at h4;rw[Sc]at h3;split at h3<;>omega
  by_cases XH:b=95
  ·have:=Vx XH;have MZ:decide ((b:Int)=95)=true:=decide_eq_true (by omega);have e1:decide (48<=(b:Int))=true:=decide_eq_true (by omega);have e2:decide ((b:Int)<=57)=false:=decide_eq_false (by omega);have e3:decide (97<=(lo:Int))=true:=decide_eq_true (by omega);have e4:decide ((lo:Int)<=122)=false:=decide_eq_false (by omega);push_cast -dsimp(maxSteps:=4000000) [cx,MZ,e1,e2,ef];refine aA (lR (b:Int) wx) ?_;rintro _ w2 ⟨rfl,rfl⟩;rw[hl];push_cast -dsimp(maxSteps:=4000000) [e3,ef];refine aA (lR (b:Int) w2) ?_;rintro _ w3 ⟨rfl,rfl⟩;rw[hl];push_cast -dsimp(maxSteps:=4000000) [e4,ef];refine⟨⟨0,_,rfl,by omega,.inr (.inr rfl),λn hn h=>?_⟩,bC⟩
   have:=AH (by rw[h];exact fG hn);rw[GD,Bool.or_eq_true,Bool.and_eq_true,Bool.and_eq_true,decide_eq_true_eq,decide_eq_true_eq,decide_eq_true_eq,decide_eq_true_eq]at this;omega
  rcases Nat.lt_or_ge b 48 with h48|h48
  ·have:=hl3 h48;have MZ:decide ((b:Int)=95)=false:=decide_eq_false (by omega);have e1:decide (48<=(b:Int))=false:=decide_eq_false (by omega);have e2:decide ((b:Int)<=57)=true:=decide_eq_true (by omega);have e3:decide (97<=(lo:Int))=false:=decide_eq_false (by omega);push_cast -dsimp(maxSteps:=4000000) [cx,MZ,e1,e2,ef];refine aA (lR (b:Int) wx) ?_;rintro _ w2 ⟨rfl,rfl⟩;rw[hl];push_cast -dsimp(maxSteps:=4000000) [e3,ef];refine⟨⟨0,_,rfl,by omega,.inr (.inr rfl),λn hn h=>?_⟩,bC⟩
   have:=AH (by rw[h];exact fG hn);rw[GD,Bool.or_eq_true,Bool.and_eq_true,Bool.and_eq_true,decide_eq_true_eq,decide_eq_true_eq,decide_eq_true_eq,decide_eq_true_eq]at this;omega
  rcases Nat.lt_or_ge lo 97 with Vp|Vp
  ·skip;have MZ:decide ((b:Int)=95)=false:=decide_eq_false (by omega);have e1:decide (48<=(b:Int))=true:=decide_eq_true (by omega);have e2:decide ((b:Int)<=57)=false:=decide_eq_false (by omega);have e3:decide (97<=(lo:Int))=false:=decide_eq_false (by omega);push_cast -dsimp(maxSteps:=4000000) [cx,MZ,e1,e2,ef];refine aA (lR (b:Int) wx) ?_;rintro _ w2 ⟨rfl,rfl⟩;rw[hl];push_cast -dsimp(maxSteps:=4000000) [e3,ef];refine⟨⟨0,_,rfl,by omega,.inr (.inr rfl),λn hn h=>?_⟩,bC⟩
   have:=AH (by rw[h];exact fG hn);rw[GD,Bool.or_eq_true,Bool.and_eq_true,Bool.and_eq_true,decide_eq_true_eq,decide_eq_true_eq,decide_eq_true_eq,decide_eq_true_eq]at this;omega
  skip;have MZ:decide ((b:Int)=95)=false:=decide_eq_false (by omega);have e1:decide (48<=(b:Int))=true:=decide_eq_true (by omega);have e2:decide ((b:Int)<=57)=false:=decide_eq_false (by omega);have e3:decide (97<=(lo:Int))=true:=decide_eq_true (by omega);have e4:decide ((lo:Int)<=122)=false:=decide_eq_false (by omega);push_cast -dsimp(maxSteps:=4000000) [cx,MZ,e1,e2,ef];refine aA (lR (b:Int) wx) ?_;rintro _ w2 ⟨rfl,rfl⟩;rw[hl];push_cast -dsimp(maxSteps:=4000000) [e3,ef];refine aA (lR (b:Int) w2) ?_;rintro _ w3 ⟨rfl,rfl⟩;rw[hl];push_cast -dsimp(maxSteps:=4000000) [e4,ef];refine⟨⟨0,_,rfl,by omega,.inr (.inr rfl),λn hn h=>?_⟩,bC⟩
  have:=AH (by rw[h];exact fG hn);rw[GD,Bool.or_eq_true,Bool.and_eq_true,Bool.and_eq_true,decide_eq_true_eq,decide_eq_true_eq,decide_eq_true_eq,decide_eq_true_eq]at this;omega
 refine⟨⟨m,_,rfl,by omega,.inl rfl,λn hn h=>⟨?_,rfl⟩⟩,bC⟩
 have:=hv (by rw[h];exact fG hn) (by rw[h,j4 hn];exact hn);rw[this,List.take_of_length_le (by omega),h,j4 hn]
end Go.Proofs.YtodeeahdhnjpkaaGreatDoor
end
section
namespace Cae
def cL (s:List UInt8)(l:List Rg):Prop:=aH (-2) l=true/\fR l=s
theorem uG {n:Nat}(hn:n<4294967296){c:UInt8}(hc:kO c=false):(fu n).contains c=false:=by
 cases h:(fu n).contains c with
 | false=>rfl
 | true =>
  have hm:c∈fu n:=by simpa using h
  have:=fG hn c hm;rw[hc]at this;cases this
theorem j0 (a b:List UInt8)(c:UInt8):(a++b).contains c=(a.contains c || b.contains c):=by
 induction a with
 | nil=>simp
 | cons x a ih=>rw[List.cons_append,List.contains_cons,List.contains_cons,ih,Bool.or_assoc]
theorem aC8 {r:Rg}(h0:0<=r.1)(h1:r.1<4294967296)(h2:r.2<4294967296):(mW r).contains 32=false:=by
 unfold mW;rw[j0,uG (by omega) (by rfl)];split
 ·rw[List.contains_cons,uG (by omega) (by rfl)];rfl
 rfl
theorem Jy (r:Rg):mW r≠[]:=by
 unfold mW;intro h;exact wE _ (List.append_eq_nil_iff.1 h).1
theorem u6 {c:UInt8}:∀{a b:List UInt8},a.contains c=false->(a++c::b).takeWhile (· != c)=a/\(a++c::b).dropWhile (· != c)=c::b
 | [],b,_=>by simp
 | x::a,b,h=>by
  rw[List.contains_cons,Bool.or_eq_false_iff]at h;have h1:(x != c)=true:=by have:=h.1;simp at this;simp;exact λe=>this e.symm
  have ih:=u6 (b:=b) h.2;rw[List.cons_append,List.takeWhile_cons,List.dropWhile_cons,if_pos h1,if_pos h1,ih.1,ih.2];exact⟨rfl,rfl⟩
theorem VE {c:UInt8}{a:List UInt8}(h:a.contains c=false):splitB c a=[a]:=by
 rw[qb,h,KT h];rfl
theorem Ox {c:UInt8}{a b:List UInt8}(h:a.contains c=false):splitB c (a++c::b)=a::splitB c b:=by
 rw[qb,(u6 h).1,(u6 h).2];have:(a++c::b).contains c=true:=by rw[j0];simp
 rw[if_pos this];rfl
theorem ym {c:UInt8}:∀(x:List UInt8) (l:List (List UInt8)),(∀p∈x::l,p.contains c=false)->splitB c (Go.Lib.join (x::l) [c])=x::l
 | x,[],h=>by rw[Go.Lib.join_one];exact VE (h x (by simp))
 | x,y::l,h=>by
  have e:Go.Lib.join (x::y::l) [c]=x++c::Go.Lib.join (y::l) [c]:=by
   rw[Go.Lib.join_cons,Go.Lib.join_cons];simp[Go.Lib.joinTail]
  rw[e,Ox (h x (by simp)),ym y l (λp hp=>h p (List.mem_cons_of_mem _ hp))]
theorem Ig {r:Rg}(h0:0<=r.1)(h1:r.1<4294967296)(h2:r.2<4294967296)(bZ:r.1<r.2):lj 45 (mW r)=(fu r.1.toNat,fu r.2.toNat,true):=by
 have hn:=uG (n:=r.1.toNat) (c:=45) (by omega) (by rfl);have e:mW r=fu r.1.toNat++45::fu r.2.toNat:=by unfold mW;rw[if_pos bZ]
 unfold lj;rw[e,(u6 hn).1,(u6 hn).2,j0];simp
theorem CF {r:Rg}(h0:0<=r.1)(h1:r.1<4294967296)(bZ:¬r.1<r.2):lj 45 (mW r)=(fu r.1.toNat,[],false):=by
 have hn:=uG (n:=r.1.toNat) (c:=45) (by omega) (by rfl);have e:mW r=fu r.1.toNat:=by unfold mW;rw[if_neg bZ,List.append_nil]
 unfold lj;rw[e,hn];rfl
theorem jM:∀{s:List Rg} {a:Int},-2<=a->aH a s=true->∀r∈s,0<=r.1/\r.1<=r.2/\r.2<=1114111
 | [],_,_,_=>λr hr=>by cases hr
 | q::s,a,ha,h=>by
  rw[cE]at h;intro r hr;rcases List.mem_cons.1 hr with rfl|hr
  ·omega
  exact jM (by omega) h.2 r hr
def iZ (l:List Rg):List UInt8:=Go.Lib.join (l.map mW) [32]
theorem tv {l:List Rg}(h:iZ l=[]):l=[]:=by
 cases l with
 | nil=>rfl
 | cons r l =>
  unfold iZ at h;rw[List.map_cons,Go.Lib.join_cons]at h;exact absurd (List.append_eq_nil_iff.1 h).1 (Jy r)
theorem sI {l:List Rg}(h:aH (-2) l=true)(dA:iZ l≠[]):splitB 32 (iZ l)=l.map mW:=by
 cases l with
 | nil=>exact absurd rfl dA
 | cons r l =>
  unfold iZ;rw[List.map_cons];refine ym _ _ λp hp=>?_;rw[<-List.map_cons]at hp;obtain⟨q,hq,rfl⟩:=List.mem_map.1 hp
  have:=jM (by omega) h q hq;exact aC8 (by omega) (by omega) (by omega)
theorem q4 {s:List UInt8}{l:List Rg}(h:cL s l):Go.Lib.hasPrefix s [91]=true/\Go.Lib.hasSuffix (Go.Lib.trimPrefix s [91]) [93]=true/\Go.Lib.trimSuffix (Go.Lib.trimPrefix s [91]) [93]=iZ l:=by
 obtain⟨hr,rfl⟩:=h;have h1:Go.Lib.hasPrefix (fR l) [91]=true:=by simp[Go.Lib.hasPrefix,fR]
 have h2:Go.Lib.trimPrefix (fR l) [91]=iZ l++[93]:=by
  unfold Go.Lib.trimPrefix;rw[h1];rfl
 have h3:Go.Lib.hasSuffix (iZ l++[93]) [93]=true:=by
  unfold Go.Lib.hasSuffix;rw[List.isSuffixOf_iff_suffix];exact⟨iZ l,rfl⟩
 rw[h2];refine⟨h1,h3,?_⟩;unfold Go.Lib.trimSuffix;rw[h3,if_pos rfl];simp
theorem vG {body x:List UInt8}{pre:List (List UInt8)}{l:List Rg}(h:aH (-2) l=true)(hb:body=iZ l)(dA:body≠[])(hp:pre++[x] <+: splitB 32 body):∃r,l[pre.length]?=some r/\x=mW r/\0<=r.1/\r.1<=r.2/\r.2<=1114111:=by
 subst hb;rw[sI h dA]at hp;obtain⟨rest,hr⟩:=hp;have h1:(l.map mW)[pre.length]?=some x:=by rw[<-hr,List.append_assoc];simp
 rw[List.getElem?_map]at h1;cases hl:l[pre.length]? with
 | none=>rw[hl]at h1;cases h1
 | some r =>
  rw[hl]at h1;cases h1;exact⟨r,rfl,rfl,jM (by omega) h r (List.mem_of_getElem? hl)⟩
structure Tok where
 kind:Nat
 text:List UInt8
 pos:Nat
 deriving DecidableEq
inductive ax where
 | lit (pos:Nat) (s:List Rg)
 | ref (pos:Nat) (name:List UInt8)
 | not (pos:Nat) (l:ax)
 | bin (code:Nat) (pos:Nat) (l r:ax)
inductive aI where
 | one (k:ax)
 | any
 | iA
 | cat (l:List aI)
 | alt (l:List aI)
 | many (x:aI) (lo hi:Int)
structure cW where
 pos:Nat
 brk:Bool
 before:aI
 after:aI
structure eD where
 name:List UInt8
 pos:Nat
 kind:ax
structure dQ where
 bJ:List eD
 rules:List cW
 els:Bool
def dV (c:UInt8):Bool:=decide (97<=c.toNat) && decide (c.toNat<=122)
def bu (c:UInt8):Bool:=decide (48<=c.toNat) && decide (c.toNat<=57)
def mg:List UInt8:=[61,59,58,124,38,45,126,40,41,46,42,43,63,123,125,44,36]
def gk (f:UInt8->Bool)(s:List UInt8):Nat:=(s.takeWhile f).length
def gG (s:List UInt8):Nat×Nat :=
 let c:=s.headD 0
 if dV c then (1,gk (λc=>dV c || bu c) s)
 else if bu c then (2,gk bu s)
 else if c=91 then (3,if s.contains 93 then gk (· != 93) s+1 else 0)
 else if mg.contains c then (4,1)
 else (4,0)
def jA:Nat->Nat->List UInt8->List Cae.Tok->Except (Nat×Nat) (List Cae.Tok)
 | 0,i,s,acc=>.error (0,0)
 | n+1,i,[],acc=>.ok (acc++[⟨5,[],i⟩])
 | n+1,i,c::r,acc =>
  if c=32\/c=10 then jA n (i+1) r acc
  else if c=35 then jA n (i+gk (· != 10) (c::r)) ((c::r).drop (gk (· != 10) (c::r))) acc
  else if (gG (c::r)).2=0 then .error (3,i)
  else if acc.length=500 then .error (4,i)
  else jA n (i+(gG (c::r)).2) ((c::r).drop (gG (c::r)).2) (acc++[⟨(gG (c::r)).1,(c::r).take (gG (c::r)).2,i⟩])
def yp (s:List UInt8):Except (Nat×Nat) (List Cae.Tok):=jA (s.length+1) 0 s []
def Dc (s:List UInt8):Option (List Rg) :=
 let body:=(s.drop 1).dropLast
 let l:List Rg:=if body=[] then [] else (splitB 32 body).map λp=>(((ic (lj 45 p).1:Nat):Int),if (lj 45 p).2.2 then ((ic (lj 45 p).2.1:Nat):Int) else ((ic (lj 45 p).1:Nat):Int))
 if aH (-2) l && fR l == s then some l else none
abbrev Pa (α:Type):=List Cae.Tok->Except (Nat×Nat) (α×List Cae.Tok)
def hd (l:List Cae.Tok):Cae.Tok:=l.headD ⟨5,[],0⟩
def pb {α β:Type}(p:Pa α)(q:α->Pa β):Pa β:=λl=>match p l with
 | .error e=>.error e
 | .ok (x,l')=>q x l'
def pr {α:Type}(x:α):Pa α:=λl=>.ok (x,l)
def ck {α:Type}(e:Nat):Pa α:=λl=>.error (e,(hd l).pos)
def bE {α:Type}(c:List Cae.Tok->Bool)(p q:Pa α):Pa α:=λl=>if c l then p l else q l
def eA:Pa Cae.Tok:=λl=>.ok (hd l,l)
def bV:Pa Unit:=λl=>match l with
 | []=>.error (0,0)
 | t::r=>if t.kind=5 then .error (0,0) else .ok ((),r)
def isKind (k:Nat)(l:List Cae.Tok):Bool:=(hd l).kind == k
def bI (s:List UInt8)(l:List Cae.Tok):Bool:=(hd l).kind != 5 && (hd l).text == s
def a7 (s:List UInt8):Pa Unit:=bE (bI s) bV (ck 3)
def rN (s:List UInt8):Bool:=s == [99,108,97,115,115] || s == [98,114,101,97,107] || s == [107,101,101,112] || s == [101,108,115,101]
def fI (l:List Cae.Tok):Bool:=(hd l).kind == 1 && !rN (hd l).text
def vA (l:List Cae.Tok):Bool:=decide (10<(hd l).text.length)
def fP:Pa (List UInt8):=bE fI (bE vA (ck 4) (pb eA λt=>pb bV λ_=>pr t.text)) (ck 3)
def oB:Pa Nat:=bE (bI [124]) (pb bV λ_=>pr 3) (bE (bI [38]) (pb bV λ_=>pr 4) (bE (bI [45]) (pb bV λ_=>pr 5) (pr 0)))
def cj (one:Pa ax)(pos:Nat):Nat->ax->Pa ax
 | 0,k=>ck 0
 | n+1,k=>pb oB λc=>if c=0 then pr k else pb one λr=>cj one pos n (.bin c pos k r)
def lG (one:Pa ax):Pa ax:=pb eA λt=>pb one λk=>cj one t.pos 1000 k
def yC:Pa ax:=pb eA λt=>match Dc t.text with
 | none=>ck 3
 | some s=>pb bV λ_=>pr (.lit t.pos s)
def dI:Nat->Pa ax
 | 0=>ck 4
 | d+1=>bE (isKind 3) yC (bE (bI [126]) (pb eA λt=>pb bV λ_=>pb (dI d) λk=>pr (.not t.pos k))
  (bE (bI [40]) (pb bV λ_=>pb (lG (dI d)) λk=>pb (a7 [41]) λ_=>pr k)
   (pb eA λt=>pb fP λn=>pr (.ref t.pos n))))
def iV (d:Nat):Pa ax:=lG (dI d)
def r6 (s:List UInt8):Nat:=s.foldl (λm b=>10*m+(b.toNat-48)) 0
def eF:Pa Nat:=bE (isKind 2) (pb eA λt=>if 12<r6 t.text then ck 4 else pb bV λ_=>pr (r6 t.text)) (ck 3)
def bR:Pa (Int×Int):=pb eF λlo=>bE (bI [44])
 (pb bV λ_=>bE (isKind 2)
  (pb eF λhi=>if hi<lo then ck 2 else pb (a7 [125]) λ_=>pr ((lo:Int),(hi:Int)))
  (pb (a7 [125]) λ_=>pr ((lo:Int),-1)))
 (pb (a7 [125]) λ_=>pr ((lo:Int),(lo:Int)))
def cF:Pa (Option (Int×Int)) :=
 bE (bI [42]) (pb bV λ_=>pr (some (0,-1)))
 (bE (bI [43]) (pb bV λ_=>pr (some (1,-1)))
 (bE (bI [63]) (pb bV λ_=>pr (some (0,1)))
 (bE (bI [123]) (pb bV λ_=>pb bR λr=>pr (some r)) (pr none))))
def aw (d:Nat):Nat->Nat->aI->Pa aI
 | 0,c,x=>ck 0
 | n+1,c,x=>pb cF λr=>match r with
  | none=>pr x
  | some q=>if d<=c+1 then ck 4 else aw d n (c+1) (.many x q.1 q.2)
def aQ (d:Nat)(unit:Pa aI):Pa aI:=pb unit λx=>aw d 1000 0 x
def gB (l:List Cae.Tok):Bool:=isKind 3 l || fI l || bI [46] l || bI [36] l || bI [40] l
def bG (again:Pa aI):Nat->List aI->Pa (List aI)
 | 0,acc=>ck 0
 | n+1,acc=>bE gB (pb again λx=>bG again n (acc++[x])) (pr acc)
def rowOf:List aI->aI
 | [x]=>x
 | l=>.cat l
def jW:List aI->aI
 | [x]=>x
 | l=>.alt l
def gV (again:Pa aI):Pa aI:=pb (bG again 1000 []) λps=>pr (rowOf ps)
def eH (row:Pa aI):Nat->List aI->Pa (List aI)
 | 0,acc=>ck 0
 | n+1,acc=>bE (bI [124]) (pb bV λ_=>pb row λx=>eH row n (acc++[x])) (pr acc)
def IQ (row:Pa aI):Pa aI:=pb row λx=>pb (eH row 1000 [x]) λps=>pr (jW ps)
def AX (d:Nat)(unit:Pa aI):Pa aI:=if d=0 then ck 4 else IQ (gV (aQ d unit))
def dx (l:List Cae.Tok):Bool:=isKind 3 l || fI l
def aY:Nat->Pa aI
 | 0=>ck 4
 | d+1=>bE (bI [46]) (pb bV λ_=>pr .any)
  (bE (bI [36]) (pb bV λ_=>pr .iA)
  (bE (bI [40]) (pb bV λ_=>pb (AX d (aY d)) λx=>pb (a7 [41]) λ_=>pr x)
  (bE dx (pb (dI (d+1)) λk=>pr (.one k)) (ck 3))))
def j8 (d:Nat):Pa aI:=AX d (aY d)
def iX:Pa eD:=pb eA λt=>pb (a7 [99,108,97,115,115]) λ_=>pb fP λn=>pb (a7 [61]) λ_=>pb (iV 9) λk=>pb (a7 [59]) λ_=>pr ⟨n,t.pos,k⟩
def az:Nat->List eD->Pa (List eD)
 | 0,acc=>ck 0
 | n+1,acc=>bE (bI [99,108,97,115,115]) (if acc.length=20 then ck 4 else pb iX λc=>az n (acc++[c])) (pr acc)
def ep:Pa Bool:=bE (bI [98,114,101,97,107]) (pb bV λ_=>pr true) (pb (a7 [107,101,101,112]) λ_=>pr false)
def iq:Pa cW:=pb eA λt=>pb ep λb=>pb (j8 9) λx=>pb (a7 [58]) λ_=>pb (j8 9) λy=>pb (a7 [59]) λ_=>pr ⟨t.pos,b,x,y⟩
def dC (l:List Cae.Tok):Bool:=bI [98,114,101,97,107] l || bI [107,101,101,112] l
def bA:Nat->List cW->Pa (List cW)
 | 0,acc=>ck 0
 | n+1,acc=>bE dC (if acc.length=20 then ck 4 else pb iq λr=>bA n (acc++[r])) (pr acc)
def ia:Pa Bool:=bE (bI [101,108,115,101]) (pb bV λ_=>pb ep λb=>pb (a7 [59]) λ_=>pr b) (pr true)
def j3:Pa dQ:=pb (az 1000 []) λcs=>pb (bA 1000 []) λrs=>pb ia λb=>pr ⟨cs,rs,b⟩
def dM (s:List UInt8):Except (Nat×Nat) dQ:=match yp s with
 | .error e=>.error e
 | .ok l=>match j3 l with
  | .error e=>.error e
  | .ok (f,l')=>if isKind 5 l' then .ok f else .error (3,(hd l').pos)
def fH:ax->Bool->List UInt8
 | .lit _ s,_=>fR s
 | .ref _ n,_=>n
 | .not _ l,_=>126::fH l true
 | .bin c _ l r,alone =>
  let m:List UInt8:=if c=3 then [32,124,32] else if c=4 then [32,38,32] else [32,45,32]
  let s:=fH l false++m++fH r true
  if alone then 40::(s++[41]) else s
def MW (n:Nat):List UInt8:=if n<10 then [MY n] else if n<100 then [MY (n / 10),MY (n % 10)] else []
def u5 (lo hi:Int):List UInt8 :=
 if lo=0/\hi<0 then [42] else if lo=1/\hi<0 then [43] else if lo=0/\hi=1 then [63]
 else if hi<0 then 123::(MW lo.toNat++[44,125])
 else if hi=lo then 123::(MW lo.toNat++[125])
 else 123::(MW lo.toNat++44::(MW hi.toNat++[125]))
def pj (b:Bool)(s:List UInt8):List UInt8:=if b then 40::(s++[41]) else s
mutual
def al:aI->Nat->List UInt8
 | .one k,_=>fH k true
 | .any,_=>[46]
 | .iA,_=>[36]
 | .cat l,least=>pj (decide (1<least)) (Go.Lib.join (bH l 2) [32])
 | .alt l,least=>pj (decide (0<least)) (Go.Lib.join (bH l 1) [32,124,32])
 | .many x lo hi,_=>al x 2++u5 lo hi
def bH:List aI->Nat->List (List UInt8)
 | [],_=>[]
 | x::l,least=>al x least::bH l least
end
def tw (c:eD):List UInt8:=[99,108,97,115,115,32]++c.name++[32,61,32]++fH c.kind false++[59,10]
def fz (r:cW):List UInt8 :=
 (if r.brk then [98,114,101,97,107,32] else [107,101,101,112,32])
  ++ (if al r.before 0=[] then [] else al r.before 0++[32])++[58]++(if al r.after 0=[] then [] else 32::al r.after 0)++[59,10]
def sg (b:Bool):List UInt8:=if b then [] else [101,108,115,101,32,107,101,101,112,59,10]
def lu (f:dQ):List UInt8:=(f.bJ.flatMap tw)++(f.rules.flatMap fz)++sg f.els
theorem Dd {s:List UInt8}{l:List Rg}(h:Dc s=some l):cL s l:=by
 have key:∀l':List Rg,(if aH (-2) l' && fR l' == s then some l' else none)=some l->cL s l:=λl' h=>by
  by_cases hc:(aH (-2) l' && fR l' == s)=true
  ·rw[if_pos hc]at h;obtain rfl:=Option.some.inj h;simp only[Bool.and_eq_true,beq_iff_eq]at hc;exact⟨hc.1,hc.2⟩
  rw[if_neg hc]at h;cases h
 exact key _ h
theorem Tl {α:Type}{f:α->α}{l:List α}(h:∀r∈l,f r=r):l.map f=l:=by
 induction l with
 | nil=>rfl
 | cons x l ih=>rw[List.map_cons,h x (by simp),ih (λr hr=>h r (by simp[hr]))]
theorem Lf {s:List UInt8}{l:List Rg}(h:cL s l):Dc s=some l:=by
 obtain⟨hr,rfl⟩:=h;have hb:((fR l).drop 1).dropLast=iZ l:=by
  unfold fR iZ;simp
 have aKS:(if ((fR l).drop 1).dropLast=[] then ([]:List Rg) else (splitB 32 ((fR l).drop 1).dropLast).map λp=>(((ic (lj 45 p).1:Nat):Int),if (lj 45 p).2.2 then ((ic (lj 45 p).2.1:Nat):Int) else ((ic (lj 45 p).1:Nat):Int)))=l:=by
  rw[hb];by_cases h0:iZ l=[]
  ·rw[if_pos h0,tv h0]
  rw[if_neg h0,sI hr h0,List.map_map];refine Tl λr hrm=>?_;obtain⟨h1,h2,h3⟩:=jM (by omega) hr r hrm;simp only[Function.comp];by_cases bZ:r.1<r.2
  ·rw[Ig h1 (by omega) (by omega) bZ];simp only[if_true];rw[j4 (by omega),j4 (by omega)];ext<;>simp<;>omega
  rw[CF h1 (by omega) bZ];simp only[Bool.false_eq_true,if_false];rw[j4 (by omega)];ext<;>simp<;>omega
 unfold Dc;simp only;rw[aKS,hr];simp
theorem Ld {s:List UInt8}(h:∀l,¬cL s l):Dc s=none:=by
 cases hs:Dc s with
 | none=>rfl
 | some l=>exact absurd (Dd hs) (h l)
theorem BL:∀{s:List Rg} {a:Int},aH a s=true->2*(s.length:Int)<=max 0 (1114113-a)
 | [],a,_=>by simp;omega
 | r::s,a,h=>by
  rw[cE]at h
  have:=BL h.2;have h1:=h.1;simp only[List.length_cons];omega
theorem dt {s:List Rg}(h:aH (-2) s=true):s.length<=557057:=by
 have:=BL h;omega
end Cae
end
