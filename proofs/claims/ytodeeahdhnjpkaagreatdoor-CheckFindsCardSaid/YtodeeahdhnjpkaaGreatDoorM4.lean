/- Texts of this claim, merged: Vo, Vw, So0, Hex, EncN, Join, Sprint, Cut, Byt, Pint, Ppar, Prul, Stp, Pst. -/
import Derived.Test.YtodeeahdhnjpkaaGreatDoorM3
import Derived.Shelf.Strings.OnBuilder
import Derived.Shelf.Strings.Search3
import Derived.Shelf.Small.Wraps
import Derived.Lib.IfaceEq
import Derived.Lib.IfaceNeq
set_option maxRecDepth 100000
set_option linter.unusedSimpArgs false
set_option linter.unusedVariables false
set_option maxHeartbeats 8000000
section
namespace Go.Vc
open Go.RowKit
theorem eqn3 {L:VP}{other:Prop}(c:Bool)(n k n' k':Nat)(p):eqNilK 3 c .eql (.slice none n k) (.slice none n' k') L other p=L (.bool true):=by cases c<;>rfl
theorem eqs3 {L:VP}{other:Prop}(c:Bool)(a:Addr)(n k n' k':Nat)(p):eqNilK 3 c .eql (.slice (some a) n k) (.slice none n' k') L other p=L (.bool false):=by cases c<;>rfl
theorem beq_dec {α:Type}[DecidableEq α][BEq α][LawfulBEq α](a b:α):(a == b)=decide (a=b):=by
 by_cases h:a=b
 ·subst h;simp
 ·rw[decide_eq_false h];exact beq_eq_false_iff_ne.2 h
theorem beq_str (a b:List UInt8):((⟨a.toArray⟩:ByteArray) == ⟨b.toArray⟩)=decide (a=b):=by
 show (a.toArray == b.toArray)=_
 rw[List.beq_toArray];exact beq_dec a b
section
set_option linter.unusedSectionVars false
variable {P:Program} {α:Type} [DecidableEq α]
structure KeyOk (P:Program)(kt:TypeId)(key:α→Value):Prop where
 und:∃d,P.underlying kt=some d∧∀a b,Instr.sameNow d (key a) (key b)=some (decide (a=b))
 bits:∀n a,Instr.sameBits n (key a) (key a)=true
 check:∀em n a w,(Instr.checkKey em (n+1) kt (key a)).run P w=.ok () w
theorem keyStr {kt:TypeId}(hk:P.underlying kt=some .string):KeyOk P kt (fun l:List UInt8=>str l) where
 und:=⟨_,hk,fun a b=>by
  simp only[str,Instr.sameNow,Option.some.injEq];exact beq_str a b⟩
 bits:=fun n a=>by have:=(beq_str a a).trans (decide_eq_true rfl);cases n<;>simpa[str,Instr.sameBits] using this
 check:=fun em n a w=>by simp[str,Instr.checkKey,run_underlying hk]
def Stm (l:List MapEntry)(clock:Nat):Prop:=(∀n∈l.map (·.born),n<clock)∧(l.map (·.born)).Nodup
theorem Stm.modify {l:List MapEntry}{clock:Nat}(h:Stm l clock)(j:Nat)(k v:Value):Stm (l.modify j fun e=>{ e with key:=k,val:=v }) clock:=by
 have e:∀(l:List MapEntry) (j:Nat),(l.modify j fun e=>{ e with key:=k,val:=v }).map (·.born)=l.map (·.born):=by
  intro l;induction l with
  | nil=>intro j;cases j<;>rfl
  | cons a l ih=>intro j;cases j with
   | zero=>rfl
   | succ j=>simp only[List.modify_succ_cons,List.map_cons,ih j]
 unfold Stm;rw[e];exact h
theorem Stm.push {l:List MapEntry}{clock:Nat}(h:Stm l clock)(k v:Value):Stm (l++[{ key:=k,val:=v,born:=clock }]) (clock+1):=by
 unfold Stm;rw[List.map_append];refine⟨fun n hn=>?_,?_⟩
 ·rcases List.mem_append.1 hn with h1|h1
  ·have:=h.1 n h1;omega
  ·have:n=clock:=by simpa using h1
   omega
 ·refine List.nodup_append.2 ⟨h.2,by simp,fun a ha b hb=>?_⟩;have:b=clock:=by simpa using hb
  have:=h.1 a ha;omega
def MapG (key:α→Value)(w:World)(b:Nat)(kvs:List (α×Value)):Prop :=
 ∃(es:Array MapEntry) (clock:Nat),w.heap[b]?=some (.map es clock)∧(es.toList.map fun e=>(e.key,e.val))=(kvs.map fun p=>(key p.1,p.2))∧Stm es.toList clock
def assocG (k:α):List (α×Value)→Option Value
 | []=>none
 | p::r=>if k=p.1 then some p.2 else assocG k r
def putG (k:α)(v:Value):List (α×Value)→List (α×Value)
 | []=>[(k,v)]
 | p::r=>if k=p.1 then (p.1,v)::r else p::putG k v r
variable {key:α→Value}
theorem MapG.kept {X:Nat→Prop}{w w':World}{b:Nat}{kvs:List (α×Value)}(h:MapG key w b kvs)(hk:Kept X w w')(hX:¬X b):MapG key w' b kvs:=by
 obtain⟨es,clock,h1,h2⟩:=h;exact⟨es,clock,(hk.block b (Array.getElem?_eq_some_iff.1 h1).1 hX).trans h1,h2⟩
theorem MapG.lt {w:World}{b:Nat}{kvs:List (α×Value)}(h:MapG key w b kvs):b<w.heap.size:=by
 obtain⟨es,clock,h1,h2⟩:=h;exact(Array.getElem?_eq_some_iff.1 h1).1
theorem MapG.below {B:Nat}{w w':World}{b:Nat}{kvs:List (α×Value)}(h:MapG key w b kvs)(hk:Below B w w')(hX:b<B):MapG key w' b kvs:=by
 obtain⟨es,clock,h1,h2⟩:=h;exact⟨es,clock,(hk.block b hX).trans h1,h2⟩
theorem findNow_G {d:TypeDesc}(hd:∀a b,Instr.sameNow d (key a) (key b)=some (decide (a=b)))(k:α):∀(es:List MapEntry) (kvs:List (α×Value)) (i:Nat),(es.map fun e=>(e.key,e.val))=(kvs.map fun p=>(key p.1,p.2)) →
  ∃r,Instr.findNow d (key k) es i=some r∧((∃j e u,r=some (j,u)∧i≤j∧es[j-i]?=some e∧e.key=key k∧assocG k kvs=some u∧∀v,(es.modify (j-i) (fun e=>{ e with key:=key k,val:=v })).map (fun e=>(e.key,e.val))=(putG k v kvs).map fun p=>(key p.1,p.2)) ∨
   (r=none∧assocG k kvs=none∧∀v,putG k v kvs=kvs++[(k,v)]))
 | [],[],i,_=>⟨none,rfl,.inr ⟨rfl,rfl,fun _=>rfl⟩⟩
 | [],_::_,_,h=>by simp at h
 | _::_,[],_,h=>by simp at h
 | e::es,p::kvs,i,h=>by
  simp only[List.map_cons,List.cons.injEq,Prod.mk.injEq]at h;obtain⟨⟨h1,h2⟩,h3⟩:=h;rw[Instr.findNow,h1,hd];by_cases hx:k=p.1
  ·rw[decide_eq_true hx];refine⟨some (i,e.val),rfl,.inl ⟨i,e,e.val,rfl,Nat.le_refl _,by simp,by rw[h1,hx],by rw[assocG,if_pos hx,h2],fun v=>?_⟩⟩;rw[Nat.sub_self,putG,if_pos hx];simp[h3,hx]
  ·rw[decide_eq_false hx];obtain⟨r,hr,hh⟩:=findNow_G hd k es kvs (i+1) h3;refine⟨r,hr,?_⟩;rcases hh with ⟨j,e',u,h4,h5,h6,h7,h8,h9⟩|⟨h4,h5,h6⟩
   ·refine .inl ⟨j,e',u,h4,by omega,?_,h7,by rw[assocG,if_neg hx,h8],fun v=>?_⟩
    ·rw[show j-i=(j-(i+1))+1 by omega]
     simpa using h6
    ·rw[show j-i=(j-(i+1))+1 by omega,putG,if_neg hx]
     simp only[List.modify_succ_cons,List.map_cons,h1,h2];rw[h9 v]
   ·exact .inr ⟨h4,by rw[assocG,if_neg hx,h5],fun v=>by rw[putG,if_neg hx,h6 v];rfl⟩
theorem lookup_runG {mt kt et:TypeId}{w:World}{b:Nat}{kvs:List (α×Value)}{z:Value}(hm:P.underlying mt=some (.map kt et))(hk:KeyOk P kt key)(hz:(P.info? et).bind (·.zero)=some z)(h:MapG key w b kvs)(k:α)(c:Bool) :
  (Instr.lookup mt (.map (some b)) (key k) c).run P w=.ok (if c then .tuple #[(assocG k kvs).getD z,.bool (assocG k kvs).isSome] else (assocG k kvs).getD z) w:=by
 obtain⟨es,clock,h1,h2,_⟩:=h;obtain⟨i,hi,hz⟩:=Option.bind_eq_some_iff.1 hz;obtain⟨d,hd,hs⟩:=hk.und;obtain⟨r,hr,hh⟩:=findNow_G hs k es.toList kvs 0 h2;have hck:(Instr.checkKey es.isEmpty 10000 kt (key k)).run P w=.ok () w:=hk.check _ 9999 k w;have hfk:(Instr.findKey kt (key k) es.toList).run P w=.ok r w:=by simp[Instr.findKey,run_underlying hd,hr]
 have hgo:(getObj b).run P w=.ok (.map es clock) w:=by simp[getObj,Sem.run,h1]
 rcases hh with ⟨j,e,u,rfl,_,_,_,ha,_⟩|⟨rfl,ha,_⟩
 ·simp[Instr.lookup,run_underlying hm,hgo,hck,hfk,ha]
 ·simp[Instr.lookup,run_underlying hm,hgo,hck,hfk,ha,zeroValue,typeInfo,hi,hz]
theorem update_runG {mt kt et:TypeId}{w:World}{b:Nat}{kvs:List (α×Value)}(hm:P.underlying mt=some (.map kt et))(hk:KeyOk P kt key)(h:MapG key w b kvs)(k:α)(v:Value) :
  ∃w',(Instr.mapUpdate mt (.map (some b)) (key k) v).run P w=.ok () w'∧MapG key w' b (putG k v kvs)∧Kept (·=b) w w'∧w'.heap.size=w.heap.size:=by
 obtain⟨es,clock,h1,h2,hst⟩:=h;have hlt:=(Array.getElem?_eq_some_iff.1 h1).1;obtain⟨d,hd,hs⟩:=hk.und;obtain⟨r,hr,hh⟩:=findNow_G hs k es.toList kvs 0 h2;have hck:(Instr.checkKey false 10000 kt (key k)).run P w=.ok () w:=hk.check _ 9999 k w;have hfk:(Instr.findKey kt (key k) es.toList).run P w=.ok r w:=by simp[Instr.findKey,run_underlying hd,hr]
 have hgo:(getObj b).run P w=.ok (.map es clock) w:=by simp[getObj,Sem.run,h1]
 have hset:∀o,(setObj b o).run P w=.ok () { w with heap:=w.heap.setIfInBounds b o }:=fun o=>by simp[setObj,Sem.run,h1]
 have hkept:∀o,Kept (·=b) w { w with heap:=w.heap.setIfInBounds b o }:=fun o=>⟨rfl,rfl,rfl,by simp,fun i hi hne=>by simp[Array.getElem?_setIfInBounds,Ne.symm hne]⟩;rcases hh with ⟨j,e,u,rfl,_,he,hek,ha,hp⟩|⟨rfl,ha,hp⟩
 ·have hesj:es[j]?=some e:=by simpa using he
  have hkey:(Instr.keyThatStays e.key (key k)).run P w=.ok (key k) w:=by
   have:Instr.sameBits 10000 e.key (key k)=true:=by rw[hek];exact hk.bits 10000 k
   simp only[Instr.keyThatStays,this,if_true];rfl
  refine⟨{ w with heap:=w.heap.setIfInBounds b (.map (es.modify j fun e=>{ e with key:=key k,val:=v }) clock) },?_,⟨es.modify j fun e=>{ e with key:=key k,val:=v },clock,?_,?_,by rw[Array.toList_modify];exact hst.modify _ _ _⟩,hkept _,by simp⟩
  ·simp[Instr.mapUpdate,run_underlying hm,hgo,hck,hfk,hesj,hkey,hset]
  ·simp[hlt]
  ·rw[←hp v,Nat.sub_zero,Array.toList_modify]
 ·refine⟨{ w with heap:=w.heap.setIfInBounds b (.map (es.push { key:=key k,val:=v,born:=clock }) (clock+1)) },?_,⟨es.push { key:=key k,val:=v,born:=clock },clock+1,?_,?_,by rw[Array.toList_push];exact hst.push _ _⟩,hkept _,by simp⟩
  ·simp[Instr.mapUpdate,run_underlying hm,hgo,hck,hfk,hset]
  ·simp[hlt]
  ·rw[hp v];simp[h2]
theorem lookupG {mt kt et:TypeId}{w:World}{b:Nat}{kvs:List (α×Value)}{z:Value}{t:Fr}{K:VK}{Q:EP}{p}{c:Bool}{k:α}(hm:P.underlying mt=some (.map kt et))(hk:KeyOk P kt key)(hz:(P.info? et).bind (·.zero)=some z)(h:MapG key w b kvs)
  (kk:K (if c then .tuple #[(assocG k kvs).getD z,.bool (assocG k kvs).isSome] else (assocG k kvs).getD z) w):valK P (Instr.lookup mt (.map (some b)) (key k) c) t w K Q p:=valK_of (lookup_runG hm hk hz h k c) kk
theorem updateG {mt kt et:TypeId}{w:World}{b:Nat}{kvs:List (α×Value)}{t:Fr}{K:VK}{Q:EP}{k:α}{v:Value}(hm:P.underlying mt=some (.map kt et))(hk:KeyOk P kt key)(h:MapG key w b kvs)
  (kk:∀w',MapG key w' b (putG k v kvs)→Kept (·=b) w w'→w'.heap.size=w.heap.size→K undef w'):unitK P (Instr.mapUpdate mt (.map (some b)) (key k) v) t w K Q .mk:=by
 obtain⟨w',hr,h1,h2,h3⟩:=update_runG hm hk h k v;exact unitK_of hr (kk w' h1 h2 h3)
theorem lookupG_some {mt kt et:TypeId}{w:World}{b:Nat}{kvs:List (α×Value)}{z kv u:Value}{t:Fr}{K:VK}{Q:EP}{p}{k:α}(hm:P.underlying mt=some (.map kt et))(hk:KeyOk P kt key)(hz:(P.info? et).bind (·.zero)=some z)(h:MapG key w b kvs)(hkv:kv=key k)(ha:assocG k kvs=some u)
  (kk:K (.tuple #[u,.bool true]) w):valK P (Instr.lookup mt (.map (some b)) kv true) t w K Q p:=by
 subst hkv;refine lookupG hm hk hz h ?_;rw[ha];exact kk
theorem lookupG_none {mt kt et:TypeId}{w:World}{b:Nat}{kvs:List (α×Value)}{z kv:Value}{t:Fr}{K:VK}{Q:EP}{p}{k:α}(hm:P.underlying mt=some (.map kt et))(hk:KeyOk P kt key)(hz:(P.info? et).bind (·.zero)=some z)(h:MapG key w b kvs)(hkv:kv=key k)(ha:assocG k kvs=none)
  (kk:K (.tuple #[z,.bool false]) w):valK P (Instr.lookup mt (.map (some b)) kv true) t w K Q p:=by
 subst hkv;refine lookupG hm hk hz h ?_;rw[ha];exact kk
theorem putG_none {k:α}{v:Value}:∀{kvs:List (α×Value)},assocG k kvs=none→putG k v kvs=kvs++[(k,v)]
 | [],_=>rfl
 | p::r,h=>by
  rw[assocG]at h;split at h
  ·cases h
  ·rename_i hne;rw[putG,if_neg hne,putG_none h];rfl
theorem updateG_new {mt kt et:TypeId}{w:World}{b:Nat}{kvs:List (α×Value)}{t:Fr}{K:VK}{Q:EP}{k:α}{v kv:Value}(hm:P.underlying mt=some (.map kt et))(hk:KeyOk P kt key)(h:MapG key w b kvs)(hkv:kv=key k)(ha:assocG k kvs=none)
  (kk:∀w',MapG key w' b (kvs++[(k,v)])→Kept (·=b) w w'→w'.heap.size=w.heap.size→K undef w'):unitK P (Instr.mapUpdate mt (.map (some b)) kv v) t w K Q .mk:=by
 subst hkv;refine updateG hm hk h ?_;rw[putG_none ha];exact kk
theorem makeMapG {mt:TypeId}{w:World}{t:Fr}{K:VK}{Q:EP}{p}{key:α→Value}(kk:∀w',MapG key w' w.heap.size []→Below w.heap.size w w'→w'.heap.size=w.heap.size+1→K (.map (some w.heap.size)) w'):valK P (Instr.makeMap mt none) t w K Q p :=
 valK_of (w':=w.alloc (.map #[] 0)) (v:=.map (some w.heap.size)) rfl (kk _ ⟨#[],0,heap_alloc_new w _,rfl,(fun n h=>by cases h),.nil⟩ ((Below.refl _ _).alloc (Nat.le_refl _) _) (by simp))
end
end Go.Vc
namespace Go.Vc
section
variable {P:Program}
end
end Go.Vc
end
section
namespace Go.Vc
open Go.RowKit
section
variable {P:Program} {ops:Array Oper} {C D:World→Prop}
end
section
variable {P:Program}
def vcPostW (P:Program)(ops:List Oper)(D:World→Prop)(R:Fr→World→Prop):(l:List Nat)→Fr→World→Ph (ops,D,R,l)→Prop
 | [],t,w,_=>R t w
 | k::r,t,w,_=>stepK P ops D ops[k]? (fun t w=>vcPostW P ops D R r t w .mk) t w .mk
def vcPreW (P:Program)(ops:List Oper)(C D:World→Prop)(R:Fr→World→Prop)(m:Nat)(post:List Nat):(l:List (Nat×Bool))→Fr→World→Ph (ops,C,D,R,m,post,l)→Prop
 | [],t,w,_=>stepK P ops D ops[m]? (fun t w=>vcPostW P ops D R post t w .mk) t w .mk
 | (k,true)::r,t,w,_=>stepK P ops D ops[k]? (fun t w=>vcPreW P ops C D R m post r t w .mk) t w .mk
 | (k,false)::r,t,w,_=>stepK P ops C ops[k]? (fun t w=>vcPreW P ops C D R m post r t w .mk) t w .mk
variable {t:Fr} {w:World} {C D:World→Prop} {R:Fr→World→Prop}
theorem vcPostW_nil (ops)(p):vcPostW P ops D R [] t w p=R t w:=(rfl)
theorem vcPostW_cons (ops k r)(p):vcPostW P ops D R (k::r) t w p=stepK P ops D ops[k]? (fun t w=>vcPostW P ops D R r t w .mk) t w .mk:=(rfl)
theorem vcPreW_nil (ops m post)(p):vcPreW P ops C D R m post [] t w p=stepK P ops D ops[m]? (fun t w=>vcPostW P ops D R post t w .mk) t w .mk:=(rfl)
theorem vcPreW_true (ops m post k r)(p):vcPreW P ops C D R m post ((k,true)::r) t w p=stepK P ops D ops[k]? (fun t w=>vcPreW P ops C D R m post r t w .mk) t w .mk:=(rfl)
theorem vcPreW_false (ops m post k r)(p):vcPreW P ops C D R m post ((k,false)::r) t w p=stepK P ops C ops[k]? (fun t w=>vcPreW P ops C D R m post r t w .mk) t w .mk:=(rfl)
end
attribute [push_cast] vcPostW_nil vcPostW_cons vcPreW_nil vcPreW_true vcPreW_false
attribute [irreducible] vcPostW vcPreW
end Go.Vc
end
section
namespace Go.Vc
open Go.RowKit
theorem Own.at0R {α:Type}{base k:Nat}{e:TypeId}{enc:α→List Value}{w:World}{b o n c:Nat}{l:List α}(h:Vc.Own base e k enc w (.slice (some ⟨b,o,none⟩) n c) l):o=0:=by
 rcases h.1.2 with ⟨he,_⟩|⟨g,cap,cr,he,_⟩
 ·cases he
 ·cases he;rfl
section
variable {P:Program} {t:Fr} {w:World} {C:World→Prop} {K:VK}
theorem mixK_max (d)(args:List Operand)(aty ty pos af g)(p):mixK P ⟨d,.call { callee:=.builtin .max,args:=args.toArray,argTypes:=aty },ty,pos,af,g⟩ t w C K p =
  mmK true (args.map (ev t)) (K · w) False .mk:=rfl
theorem mixK_min (d)(args:List Operand)(aty ty pos af g)(p):mixK P ⟨d,.call { callee:=.builtin .min,args:=args.toArray,argTypes:=aty },ty,pos,af,g⟩ t w C K p =
  mmK false (args.map (ev t)) (K · w) False .mk:=rfl
end
attribute [push_cast] mixK_max mixK_min
theorem fun_of_calls {P:Program}{f:FuncId}{fn:Func}{args:List Value}{w:World}{R:VK}(hf:P.funcs[f]?=some fn)(hb:fn.body.isNone=false)(hn:(fn.name == "runtime.NumGoroutine")=false)
  (h:Calls P f args.toArray w fun e w'=>∃v,e=.returned v∧R v w'):Fun P f args w R:=⟨callFunc_enter hf hb hn,h⟩
theorem ownFresh {α:Type}{w:World}{e:TypeId}{k g G:Nat}{enc:α→List Value}{cur:Array Value}(hk:∀x,(enc x).length=k)(hb:w.heap[g]?=some (.cells cur e (0,0)))(hG:G≤maxLen)(hs:cur.size=G*k):Vc.Own g e k enc w (.slice (some ⟨g,0,none⟩) 0 G) ([]:List α) :=
 ⟨⟨by simp,.inr ⟨g,G,cur,rfl,Nat.le_refl _,hb,Nat.zero_le _,hG,hs,by simp⟩⟩,hk⟩
theorem calls_of_fun {P:Program}{f:FuncId}{args:List Value}{w:World}{R:VK}(h:Fun P f args w R):Calls P f args.toArray w fun e w'=>∃v,e=.returned v∧R v w':=h.2
end Go.Vc
namespace Go.Proofs.YtodeeahdhnjpkaaGreatDoor
open Go.Vc Go.Proofs Go.RowKit Cae
attribute [local irreducible] wpL callK valK unitK runK Fun Sl Vc.Own vc vcOps opK pureK
end Go.Proofs.YtodeeahdhnjpkaaGreatDoor
namespace Go.RowKit
theorem Below.tr {a b c:World}(h:Below a.heap.size a b)(k:Below b.heap.size b c):Below a.heap.size a c:=h.trans (k.mono h.size)
end Go.RowKit
end
section
namespace Cae
def dig (n:Nat):UInt8:=if n<10 then UInt8.ofNat (48+n) else UInt8.ofNat (87+n)
def hexF:Nat→Nat→List UInt8→List UInt8
 | 0,n,acc=>dig n::acc
 | f+1,n,acc=>if n<16 then dig n::acc else hexF f (n / 16) (dig (n % 16)::acc)
def hexP (n:Nat):List UInt8:=hexF 8 n []
theorem hexF_len:∀(f n:Nat) (acc:List UInt8),(hexF f n acc).length≤f+1+acc.length
 | 0,n,acc=>by rw[hexF];simp;omega
 | f+1,n,acc=>by
  rw[hexF];split
  ·simp;omega
  ·have:=hexF_len f (n / 16) (dig (n % 16)::acc);rw[List.length_cons]at this;omega
theorem hexP_len (n:Nat):(hexP n).length≤9:=hexF_len 8 n []
end Cae
namespace Go.Vc
open Go.RowKit
theorem slBlkAt {α:Type}{f:α→Value}{w:World}{b c j n:Nat}{e:TypeId}{l:List α}{cs:List Value}(hB:Blk w b e cs)(hd:cs.drop j=l.map f)(hn:n=l.length)(hc:l.length≤c):Sl (fun _=>False) 1 (En (fun x=>[f x])) w (.slice (some ⟨b,j,none⟩) n c) l:=by
 subst hn;refine⟨_,_,rfl,hc,fun i x hx=>⟨b,j,[f x],rfl,id,rfl,fun k u hu=>?_,rfl⟩⟩;cases k with
 | zero =>
  simp at hu;subst hu;rw[Nat.mul_one,Nat.add_zero];refine hB.cell ?_;have h1:(cs.drop j)[i]?=some (f x):=by rw[hd,List.getElem?_map,hx];rfl
  rwa [List.getElem?_drop]at h1
 | succ k=>simp at hu
end Go.Vc
namespace Go.Proofs.YtodeeahdhnjpkaaGreatDoor
open Go.Vc Go.Proofs Go.RowKit Cae
attribute [local irreducible] wpL callK valK unitK runK Fun Sl Vc.Own vc vcOps opK pureK
def Db (w:World):Prop:=w.cell? ⟨12,15,none⟩=some (.int .u8 4)
theorem Db.below {w w':World}{B:Nat}(h:Db w)(hb:Below B w w')(hB:12<B):Db w':=(hb.cell hB).trans h
theorem Db.lt {w:World}(h:Db w):12<w.heap.size:=World.block_lt_of_cell? w _ h
theorem bits_and_u64 {x y:Nat}(hx:x<18446744073709551616)(hy:y<18446744073709551616):bitop .and .u64 x y=((x &&& y:Nat):Int):=by
 simp only[bitop,ofInt_nat,BitVec.toNat_and,BitVec.toNat_ofNat];rw[Nat.mod_eq_of_lt (show x<2 ^ IntKind.u64.bits by show x<2 ^ 64;omega),Nat.mod_eq_of_lt (show y<2 ^ IntKind.u64.bits by show y<2 ^ 64;omega),wrap_u64_nat,Nat.mod_eq_of_lt (and_lt (n:=64) hx)]
theorem digTab:∀d:Nat,d<16→([48,49,50,51,52,53,54,55,56,57,97,98,99,100,101,102,103,104,105,106,107,108,109,110,111,112,113,114,115,116,117,118,119,120,121,122]:List UInt8).getD d 0=dig d:=by decide
theorem pow2_c (w:World):Fun Tryz.prog 235 [.int .i64 16] w fun r w'=>r=.bool true∧w'=w:=by
 refine fun_of_vc Tryz.func235 rfl (by kernel_rfl) [2] rfl ?_;push_cast -dsimp(maxSteps:=4000000) [Tryz.ntmps235];have e1:bitop .and .i64 16 15=0:=by decide +kernel
 rw[e1];rfl
theorem tz64_c (w:World)(h:Db w):Fun Tryz.prog 241 [.int .u64 16] w fun r w'=>r=.int .i64 4∧w'=w:=by
 refine fun_of_vc Tryz.func241 rfl (by kernel_rfl) [2] rfl ?_;push_cast -dsimp(maxSteps:=4000000) [Tryz.ntmps241];push_cast -dsimp;have e1:(IntKind.u64.wrap (bitop .and .u64 16 (IntKind.u64.wrap (-16))*285870213051353865)).fdiv (2 ^ min 58 IntKind.u64.bits)=15:=by decide +kernel
 rw[e1];have h':w.cell? ⟨12,15,none⟩=some (.int .u8 4):=h;push_cast -dsimp[h'];rfl
theorem tz_c (w:World)(h:Db w):Fun Tryz.prog 236 [.int .u64 16] w fun r w'=>r=.int .i64 4∧w'=w:=by
 refine fun_of_vc Tryz.func236 rfl (by kernel_rfl) [2] rfl ?_;push_cast -dsimp(maxSteps:=4000000) [Tryz.ntmps236];refine callK_of (tz64_c w h) ?_;rintro _ w1 ⟨rfl,rfl⟩;push_cast -dsimp
theorem sliceArrK {P:Program}{xt:TypeId}{n s:Nat}{e:TypeId}{E:Option (TypeId×Nat)}{a:Addr}{j:Nat}{L:VP}{o:Oper}{t:Fr}{w:World}{K:VK}{Q:EP}{p}(hu:P.underlying xt=some (.array n e))(hn:P.arrayLen xt=n)(he:P.elem xt=e)
  (hs:(sizeOf e).run P w=.ok s w) (ho:execOp (ev t) o=(do pure (.value (←Instr.sliceAt xt (.pointer (some a)) (some (.int .i64 (j:Int))) none none)))) (hj:j<n)
  (k:K (.slice (some (a.add (j*s))) (n-j) (n-j)) w):sliceK (P.underlying xt) E (.pointer (some a)) (some (.int .i64 (j:Int))) none none L (runK P o t w K Q .mk) p:=by
 rw[hu]
 show runK P o t w K Q .mk
 refine runK_val ho (valK_of ?_ k);rw[run_sliceAt_array_l w xt a (by rw[hu,hn,he]) .i64 (j:Int) (by omega) (by rw[hn];omega),he,hs];rw[hn];unfold slicedAt;rw[Int.toNat_natCast]
 show Result.ok (Value.slice (some (if n=j then a else a.add (j*s))) (n-j) (n-j)) w=_
 rw[if_neg (by omega)]
theorem formatBits_c (n:Nat)(hn:n<4294967296)(w:World)(h:Db w) :
  Fun Tryz.prog 221 [.slice none 0 0,.int .u64 (n:Int),.int .i64 16,.bool false,.bool false] w fun r w'=>r=.tuple #[.slice none 0 0,str (hexP n)]∧Below w.heap.size w w':=by
 refine fun_of_vc Tryz.func221 rfl (by kernel_rfl) [10,11] rfl ?_;push_cast -dsimp(maxSteps:=4000000) [Tryz.ntmps221];push_cast -dsimp;refine allocK (z:=List.replicate 65 (.int .u8 0)) (by kernel_rfl) ?_;intro w1 hw1;have sz1:=hw1.size;have hb1:=hw1.below;push_cast -dsimp;refine callK_of (pow2_c w1) ?_;rintro _ w2 ⟨rfl,rfl⟩;push_cast -dsimp;have e4:IntKind.u64.wrap 4=4:=by decide
 have e16:IntKind.u64.wrap 16=16:=by decide
 have e15:IntKind.u64.wrap (16-1)=15:=by decide
 refine callK_of (tz_c w2 (h.below hb1 h.lt)) ?_;rintro _ w3 ⟨rfl,rfl⟩;push_cast -dsimp[e4,e16,e15];refine wpL_loop [1,13,44,45,46,47,48,49,50,51,52,53,54,55,56,57] (fun z wx=>∃(f m i:Nat) (acc:List UInt8) (cs:List Value),z 1=.int .u64 (m:Int)∧z 13=.int .i64 (i:Int)∧i=57+f∧f≤8∧m<16 ^ (f+1)∧hexF f m acc=hexP n∧cs.length=65∧cs.drop i=acc.map (fun b=>.int .u8 (b.toNat:Int))∧Blk wx w.heap.size 312 cs∧Below w.heap.size w wx) (fun z _=>(intOf (z 13)).toNat) ?_ ?_
 ·refine⟨8,n,65,[],_,rfl,rfl,rfl,Nat.le_refl _,by omega,rfl,List.length_replicate ..,?_,hw1.blk,hb1⟩;rfl
 ·intro z wx hI;obtain⟨f,m,i,acc,cs,h1,h13,hif,hf,hm,hh,hcl,hcd,hB,hbx⟩:=hI;have szx:=hbx.size;have hm64:m<18446744073709551616:=Nat.lt_of_lt_of_le hm (Nat.le_trans (Nat.pow_le_pow_right (by omega) (show f+1≤9 by omega)) (by decide))
  have hgd:∃d,m % 16=d:=⟨_,rfl⟩;obtain⟨d,hd⟩:=hgd;have hd16:d<16:=by omega
  have ea:bitop .and .u64 (m:Int) (IntKind.u64.wrap 15)=(d:Int):=by
   rw[show IntKind.u64.wrap 15=((2 ^ 4-1:Nat):Int) from rfl,bits_and_u64 hm64 (by omega),and_mask,←hd]
  have hq:∃q,m / 16=q:=⟨_,rfl⟩;obtain⟨q,hq⟩:=hq;have es:(m:Int).fdiv (2 ^ min 4 IntKind.u64.bits)=(q:Int):=by
   rw[←hq];exact shr_nat (b:=4) (k:=4) rfl (by decide)
  have hi1:∃j,i=j+1:=⟨i-1,by omega⟩;obtain⟨j,rfl⟩:=hi1;have ej:((j:Nat):Int)+1-1=(j:Int):=by omega
  push_cast -dsimp[h1,h13,ea,es,ej];refine⟨fun hge=>?_,fun hlt=>?_⟩
  ·refine⟨⟨by omega,by omega⟩,⟨by omega,by omega⟩,⟨by omega,by omega⟩,?_⟩;rw[digTab d hd16];refine storeK_of hB (by omega) rfl ?_;intro w5 hw5;have sz5:w5.heap.size=wx.heap.size:=hw5.size;push_cast -dsimp[es];cases f with
   | zero=>exact absurd hm (by omega)
   | succ f =>
    rw[hexF,if_neg (by omega),hq,hd]at hh;refine⟨⟨f,q,j,dig d::acc,_,rfl,rfl,by omega,by omega,?_,hh,by rw[List.length_set];exact hcl,?_,hw5.blk,hbx.trans (hw5.kept.below szx (fun g hg=>Nat.le_of_eq (Eq.symm hg)))⟩,by rw[h13];simp only[intOf];omega⟩
    ·rw[←hq];refine Nat.div_lt_of_lt_mul ?_;rw[Nat.mul_comm,←Nat.pow_succ];exact hm
    ·rw[List.drop_set,if_neg (by omega),Nat.sub_self,List.drop_eq_getElem_cons (by omega),List.set_cons_zero,hcd,List.map_cons]
  ·have hh':dig m::acc=hexP n:=by
    rw[←hh];cases f with
    | zero=>rfl
    | succ f=>rw[hexF,if_pos (by omega)]
   have hm36:m<16:=by omega
   refine⟨⟨by omega,by omega⟩,⟨by omega,by omega⟩,⟨by omega,by omega⟩,?_⟩;rw[digTab m hm36];refine storeK_of hB (by omega) rfl ?_;intro w5 hw5;have sz5:w5.heap.size=wx.heap.size:=hw5.size;push_cast -dsimp;refine sliceArrK (n:=65) (s:=1) (e:=5) (by kernel_rfl) (by kernel_rfl) (by kernel_rfl) (by rfl) rfl (by omega) ?_;push_cast -dsimp;have hsl:Sl (fun _=>False) 1 (En encB) w5 (.slice (some ⟨w.heap.size,j,none⟩) (65-j) (65-j)) (dig m::acc):=by
    refine slBlkAt (f:=fun b:UInt8=>.int .u8 (b.toNat:Int)) hw5.blk ?_ ?_ ?_
    ·rw[List.drop_set,if_neg (by omega),Nat.sub_self,List.drop_eq_getElem_cons (by omega),List.set_cons_zero,hcd,List.map_cons]
    ·have:=congrArg List.length hcd;rw[List.length_drop,List.length_map,hcl]at this;rw[List.length_cons];omega
    ·have:=congrArg List.length hcd;rw[List.length_drop,List.length_map,hcl]at this;rw[List.length_cons];omega
   refine strK (e:=5) (by kernel_rfl) (by kernel_rfl) (by kernel_rfl) hsl ?_;push_cast -dsimp;rw[hh'];exact⟨rfl,hbx.trans (hw5.kept.below szx (fun g hg=>Nat.le_of_eq (Eq.symm hg)))⟩
theorem fmtInt_c (n:Nat)(hn:n<4294967296)(w:World)(h:Db w):Fun Tryz.prog 190 [.int .i64 (n:Int),.int .i64 16] w fun r w'=>r=str (hexP n)∧Below w.heap.size w w':=by
 refine fun_of_vc Tryz.func190 rfl (by kernel_rfl) [4] rfl ?_;push_cast -dsimp(maxSteps:=4000000) [Tryz.ntmps190];have e1:IntKind.u64.wrap (n:Int)=(n:Int):=by rw[wrap_u64_nat,Nat.mod_eq_of_lt (by omega)]
 have e2:decide ((n:Int)<0)=false:=decide_eq_false (by omega);push_cast -dsimp[e1,e2];refine callK_of (formatBits_c n hn w h) ?_;rintro _ w1 ⟨rfl,hb⟩;push_cast -dsimp;exact hb
theorem fmtI_c (n:Nat)(hn:n<4294967296)(w:World)(h:Db w):Fun Tryz.prog 158 [.int .i64 (n:Int),.int .i64 16] w fun r w'=>r=str (hexP n)∧Below w.heap.size w w':=by
 refine fun_of_vc Tryz.func158 rfl (by kernel_rfl) [4] rfl ?_;push_cast -dsimp(maxSteps:=4000000) [Tryz.ntmps158];refine callK_of (fmtInt_c n hn w h) ?_;rintro _ w1 ⟨rfl,hb⟩;push_cast -dsimp;exact hb
theorem hex_c (n:Nat)(hn:n<4294967296)(w:World)(h:Db w):Fun Tryz.prog 195 [.int .i64 (n:Int)] w fun r w'=>r=str (hexP n)∧Below w.heap.size w w':=by
 refine fun_of_vc Tryz.func195 rfl (by kernel_rfl) [2] rfl ?_;push_cast -dsimp(maxSteps:=4000000) [Tryz.ntmps195];refine callK_of (fmtI_c n hn w h) ?_;rintro _ w1 ⟨rfl,hb⟩;push_cast -dsimp;exact hb
end Go.Proofs.YtodeeahdhnjpkaaGreatDoor
end
section
namespace Go.Proofs.YtodeeahdhnjpkaaGreatDoor
open Go.Vc Go.Proofs Go.RowKit
end Go.Proofs.YtodeeahdhnjpkaaGreatDoor
namespace Go.Vc
def encS (b:List UInt8):List Value:=[str b]
end Go.Vc
end
section
namespace Go.Vc
open Go.RowKit
theorem Sl.strs {X:Nat→Prop}{w:World}{v:Value}{x:List UInt8}{l:List (List UInt8)}(h:Sl X 1 (En Vc.encS) w v (x::l)):∃b o c,v=.slice (some ⟨b,o,none⟩) (x::l).length c∧(x::l).length≤c∧b<w.heap.size∧∀(j:Nat) y,((x::l).map fun t:List UInt8=>(⟨t.toArray⟩:ByteArray))[j]?=some y→w.cell? ⟨b,o+j,none⟩=some (.string y):=by
 obtain⟨a,c,rfl,hc,hel⟩:=h;have h0:=hel 0 x rfl;obtain⟨b,o,cs,rfl,hb,hcs,hcell,hr⟩:=h0;have hall:∀(j:Nat) y,((x::l).map fun t:List UInt8=>(⟨t.toArray⟩:ByteArray))[j]?=some y→w.cell? ⟨b,o+j,none⟩=some (.string y):=by
  intro j y hy;rw[List.getElem?_map]at hy;cases hx:(x::l)[j]? with
  | none=>rw[hx]at hy;cases hy
  | some t =>
   rw[hx]at hy;cases hy;have h1:=hel j t hx;obtain⟨b1,o1,cs1,he,hb1,hcs1,hcell1,hr1⟩:=h1;cases he
   have:=hcell1 0 (str t) (by rw[hr1];rfl);rwa [Nat.mul_one,Nat.add_zero]at this
 exact⟨b,o,c,rfl,hc,World.block_lt_of_cell? w _ (hall 0 _ rfl),hall⟩
end Go.Vc
namespace Go.Proofs.YtodeeahdhnjpkaaGreatDoor
open Go.Vc Go.Proofs Go.RowKit Cae
attribute [local irreducible] wpL callK valK unitK runK Fun Sl Vc.Own vc vcOps opK pureK
def joinR_ren:Go.Shelf.Ren:=⟨fun|156=>196|165=>225|166=>226|169=>227|240=>237|241=>238|276=>242|277=>243|n=>n,fun|31=>164|9=>9|3=>3|4=>4|0=>0|20=>20|72=>298|76=>172|70=>296|37=>142|75=>32|127=>306|164=>175|5=>5|80=>76|n=>n,fun|n=>n⟩
theorem joinR:Go.Proofs.Lays.n156 Tryz.prog joinR_ren:={
 mixed:=by kernel_rfl
 f156:=Tryz.func196.trans (congrArg some (by kernel_rfl))
 f165:=Tryz.func225.trans (congrArg some (by kernel_rfl))
 f166:=Tryz.func226.trans (congrArg some (by kernel_rfl))
 f169:=Tryz.func227.trans (congrArg some (by kernel_rfl))
 f240:=Tryz.func237.trans (congrArg some (by kernel_rfl))
 f241:=Tryz.func238.trans (congrArg some (by kernel_rfl))
 f276:=Tryz.func242.trans (congrArg some (by kernel_rfl))
 f277:=Tryz.func243.trans (congrArg some (by kernel_rfl))
 t0:=Tryz.underlying0
 a0:=Tryz.isAgg0
 z0:=Tryz.sizeOf0
 v0:=Tryz.zeroValue0
 t3:=Tryz.underlying3
 a3:=Tryz.isAgg3
 z3:=Tryz.sizeOf3
 v3:=Tryz.zeroValue3
 t4:=Tryz.underlying4
 a4:=Tryz.isAgg4
 z4:=Tryz.sizeOf4
 v4:=Tryz.zeroValue4
 t9:=Tryz.underlying9
 a9:=Tryz.isAgg9
 z9:=Tryz.sizeOf9
 v9:=Tryz.zeroValue9
 t20:=Tryz.underlying20
 a20:=Tryz.isAgg20
 z20:=Tryz.sizeOf20
 v20:=Tryz.zeroValue20
 t31:=Tryz.underlying164
 a31:=Tryz.isAgg164
 z31:=Tryz.sizeOf164
 v31:=Tryz.zeroValue164
 t37:=Tryz.underlying142
 a37:=Tryz.isAgg142
 z37:=Tryz.sizeOf142
 v37:=Tryz.zeroValue142
 t70:=Tryz.underlying296
 a70:=Tryz.isAgg296
 z70:=Tryz.sizeOf296
 v70:=Tryz.zeroValue296
 t72:=Tryz.underlying298
 a72:=Tryz.isAgg298
 z72:=Tryz.sizeOf298
 v72:=Tryz.zeroValue298
 t75:=Tryz.underlying32
 a75:=Tryz.isAgg32
 z75:=Tryz.sizeOf32
 v75:=Tryz.zeroValue32
 t76:=Tryz.underlying172
 a76:=Tryz.isAgg172
 z76:=Tryz.sizeOf172
 v76:=Tryz.zeroValue172
 t127:=Tryz.underlying306
 a127:=Tryz.isAgg306
 z127:=Tryz.sizeOf306
 v127:=Tryz.zeroValue306
 t164:=Tryz.underlying175
 a164:=Tryz.isAgg175
 z164:=Tryz.sizeOf175
 v164:=Tryz.zeroValue175 }
theorem joinX:Builder.Extra Tryz.prog joinR_ren where
 sizeBuilder:=by kernel_rfl
 liesBuilder:=by kernel_rfl
 t5:=by kernel_rfl
 a5:=fun w=>(tyK_one (P:=Tryz.prog) (by kernel_rfl) w).1
 z5:=fun w=>(tyK_one (P:=Tryz.prog) (by kernel_rfl) w).2
 v5:=by intro w;rfl
 infoByte:=by kernel_rfl
 cellsByte:=by kernel_rfl
 sizeByte:=by kernel_rfl
 neB5:=by decide
theorem join_c (l:List (List UInt8))(sep:List UInt8)(hN:l.length<1000000000)(hlen:(Lib.join l sep).length≤140737488355328)(X:Nat→Prop)(v:Value)(w:World)(hv:Sl X 1 (En Vc.encS) w v l) :
  Fun Tryz.prog 196 [v,str sep] w fun r w'=>r=str (Lib.join l sep)∧Below w.heap.size w w':=by
 refine fun_of_calls Tryz.func196 (by kernel_rfl) (by kernel_rfl) ?_;cases l with
 | nil =>
  have hsh:=hv.shape;obtain⟨a,c,rfl,hc⟩:=hsh;refine Calls.mono (Any.strings_Join_none joinR joinX a c ⟨sep.toArray⟩ w) ?_;rintro e w' ⟨rfl,rfl⟩;exact⟨_,rfl,rfl,Below.refl _ _⟩
 | cons x l =>
  have hsl:=hv.strs;obtain⟨b,o,c,rfl,hc,hb,hcell⟩:=hsl;have e1:(((x::l).map fun t:List UInt8=>(⟨t.toArray⟩:ByteArray)).map (·.data.toList))=x::l:=by
   rw[List.map_map];exact List.map_id' _
  have hj:=Any.strings_Join joinR joinX b o c ((x::l).map fun t:List UInt8=>(⟨t.toArray⟩:ByteArray)) ⟨sep.toArray⟩ w hcell hb (by rw[List.length_map];omega) (by rw[List.length_map];exact hc) (by rw[e1];exact hlen);rw[e1,List.length_map]at hj;refine Calls.mono hj ?_;rintro e w' ⟨rfl,hbl⟩;exact⟨_,rfl,rfl,hbl⟩
end Go.Proofs.YtodeeahdhnjpkaaGreatDoor
end
section
namespace Cae
def rgP (r:Rg):List UInt8:=hexP r.1.toNat++(if r.1<r.2 then 45::hexP r.2.toNat else [])
def printP (s:List Rg):List UInt8:=91::(Go.Lib.join (s.map rgP) [32]++[93])
def Wr (s:List Rg):Prop:=∀r∈s,0≤r.1∧r.1<4294967296∧r.2<4294967296
theorem rgP_len (r:Rg):(rgP r).length≤19:=by
 unfold rgP;have h1:=hexP_len r.1.toNat;have h2:=hexP_len r.2.toNat;split<;>simp<;>omega
theorem joinR_len (s:List Rg):(Go.Lib.join (s.map rgP) [32]).length≤20*s.length:=by
 cases s with
 | nil=>simp[Go.Lib.join_nil]
 | cons r s =>
  rw[List.map_cons,Go.Lib.join_cons,List.length_append,Go.Lib.joinTail_length];have h1:=rgP_len r;have h2:Go.Lib.lens (s.map rgP)≤19*s.length:=by
   induction s with
   | nil=>simp[Go.Lib.lens]
   | cons q s ih =>
    have:=rgP_len q;simp only[Go.Lib.lens,List.map_cons,List.sum_cons,List.length_cons]at ih ⊢
    omega
  simp only[List.length_cons,List.length_nil,List.length_map];omega
theorem wr_right:∀{s:List Rg} {a:Int},-2≤a→setRight a s=true→Wr s
 | [],_,_,_=>fun r hr=>by cases hr
 | q::s,a,ha,h=>by
  rw[setRight_con]at h;intro r hr;rcases List.mem_cons.1 hr with rfl|hr
  ·omega
  ·exact wr_right (by omega) h.2 r hr
end Cae
namespace Go.Proofs.YtodeeahdhnjpkaaGreatDoor
open Go.Vc Go.Proofs Go.RowKit Cae
attribute [local irreducible] wpL callK valK unitK runK Fun Sl Vc.Own vc vcOps opK pureK
theorem print_c (s:List Rg)(hs:s.length<10000000)(hw:Wr s)(X:Nat→Prop)(v:Value)(w:World)(hv:Sl X 2 (En encR) w v s)(h:Db w) :
  Fun Tryz.prog 165 [v] w fun r w'=>r=str (printP s)∧Below w.heap.size w w':=by
 obtain⟨a,c,rfl,hc⟩:=hv.shape;refine fun_of_vc Tryz.func165 rfl (by kernel_rfl) [2] rfl ?_;push_cast -dsimp(maxSteps:=4000000) [Tryz.ntmps165];refine wpL_loop [3,5,6,9,10,11,12,13,14,15,16,17,18,19,20,21,22,23,24,25,26,27,28,29,30,31] (fun z wx=>∃(i:Nat) (ov:Value),z 9=.int .i64 i∧z 3=ov∧i≤s.length∧Vc.Own w.heap.size 9 1 Vc.encS wx ov ((s.take i).map rgP)∧Below w.heap.size w wx) (fun z _=>s.length-(intOf (z 9)).toNat) ?_ ?_
 ·exact⟨0,_,rfl,rfl,Nat.zero_le _,Vc.Own.nil (enc:=Vc.encS) _ _ (fun _=>rfl) _,Below.refl _ _⟩
 ·intro z wx hI;obtain⟨i,ov,h9,h3,hi,hox,hbx⟩:=hI;have szx:=hbx.size;push_cast -dsimp[h9,h3];refine⟨fun hlt=>?_,fun hge=>?_⟩
  ·have hg:=lt_get (l:=s) (i:=i) (by omega);obtain⟨x,hx,hxm,_,ht⟩:=hg;have hsx:=hv.below hbx;have hg:=hsx.get hx;obtain⟨b,o,rfl,hnb,hcell⟩:=hg;have cx:cellsAt wx ⟨b,o+i*2,none⟩ 0 2=some [.int .i64 x.1,.int .i64 x.2]:=cellsAt_of (encR x) 0 (fun j u hu=>by simpa using hcell j u hu);have hxw:=hw x hxm;obtain⟨x1,x2,x3⟩:=hxw;have est:(s.take (i+1)).map rgP=(s.take i).map rgP++[rgP x]:=by
    rw[ht,List.map_append];rfl
   have hgn:∃n:Nat,x.1=n:=⟨x.1.toNat,by omega⟩;obtain⟨n,hn⟩:=hgn;rw[hn]at cx;push_cast -dsimp[cx];refine⟨⟨by omega,by omega⟩,?_⟩;refine allocK (z:=[.int .i64 0,.int .i64 0]) (by kernel_rfl) ?_;intro w3 hw3;have sz3:=hw3.size;push_cast -dsimp;refine storeAgg (n:=2) (by kernel_rfl) hw3.blk rfl (by simp) (by simp[Value.oneCell']) ?_;intro w4 hw4;have sz4:=hw4.size;have c0:w4.cell? ⟨wx.heap.size,0,none⟩=some (.int .i64 (n:Int)):=hw4.blk.cell rfl;have c1:w4.cell? ⟨wx.heap.size,1,none⟩=some (.int .i64 x.2):=hw4.blk.cell rfl;push_cast -dsimp[c0,c1];have k4:Kept (fun j=>j=wx.heap.size) wx w4:=(Kept.new hw3).trans hw4.kept (fun _ _ h=>h);have ho4:=hox.keptX k4 (fun g hg h=>by have:=hox.block g hg;omega);have hb4:Below w.heap.size w w4:=hbx.trans (k4.below szx (fun _ h=>by omega));have hsh:=ho4.slice;obtain⟨oa,oc,rfl⟩:=hsh;refine callK_of (hex_c n (by omega) w4 (h.below hb4 h.lt)) ?_;rintro _ w5 ⟨rfl,hb5⟩;have sz5:=hb5.size;have ho5:=ho4.below hb5;have hB5:=hb4.trans (hb5.mono (show w.heap.size≤w4.heap.size by omega))
   have c5:w5.cell? ⟨wx.heap.size,0,none⟩=some (.int .i64 (n:Int)):=(hb5.cell (by show wx.heap.size<w4.heap.size;omega)).trans c0
   have c5':w5.cell? ⟨wx.heap.size,1,none⟩=some (.int .i64 x.2):=(hb5.cell (by show wx.heap.size<w4.heap.size;omega)).trans c1
   push_cast -dsimp[c5,c5'];refine⟨fun hgt=>?_,fun hle=>?_⟩
   ·have hgm:∃m:Nat,x.2=m:=⟨x.2.toNat,by omega⟩;obtain⟨m,hm⟩:=hgm;have hrg:rgP x=hexP n++45::hexP m:=by unfold rgP;rw[if_pos (by omega),hn,hm];rfl
    rw[hm]at c5';rw[hm];refine callK_of (hex_c m (by omega) w5 (h.below hB5 h.lt)) ?_;rintro _ w6 ⟨rfl,hb6⟩;have sz6:=hb6.size;have ho6:=ho5.below hb6;have hB6:=hB5.trans (hb6.mono (show w.heap.size≤w5.heap.size by omega))
    have hl1:=hexP_len n;have hl2:=hexP_len m;push_cast -dsimp;refine⟨by omega,by simp only[List.length_append,List.length_cons,List.length_nil];omega,?_⟩;refine rowK elI_164 rfl rfl (by omega) ?_;intro w7 hw7;have sz7:w7.heap.size=w6.heap.size+1:=hw7.size;have ho7:=ho6.new hw7;push_cast -dsimp;refine appendK2 (base:=w.heap.size) [rgP x] (enc:=Vc.encS) elI_164 ho7 (by rfl) (fun j u hu=>by rw[hrg]at hu;rw[Nat.zero_add];exact hw7.cell hu) (by simp[Vc.encS,str,Value.oneCell']) (by simp only[List.length_cons,List.length_nil,List.length_map,List.length_take];omega) (by omega) ?_;intro v8 w8 ho8 hg8 hn8;have hb8:Below w.heap.size w w8:=(hB6.trans (hw7.below.mono (by omega))).trans ((Kept.grown (X:=fun j=>w.heap.size≤j) hg8 (fun k hk=>(ho7.block k hk).1)).below (by omega) (fun _ h=>h));rw[←est]at ho8;push_cast -dsimp;exact⟨⟨by omega,by omega⟩,⟨i+1,_,rfl,rfl,by omega,ho8,hb8⟩,by rw[h9];simp only[intOf];omega⟩
   ·have hrg:rgP x=hexP n:=by unfold rgP;rw[if_neg (by omega),hn];exact List.append_nil _
    refine rowK elI_164 rfl rfl (by omega) ?_;intro w7 hw7;have sz7:w7.heap.size=w5.heap.size+1:=hw7.size;have ho7:=ho5.new hw7;push_cast -dsimp;refine appendK2 (base:=w.heap.size) [rgP x] (enc:=Vc.encS) elI_164 ho7 (by rfl) (fun j u hu=>by rw[hrg]at hu;rw[Nat.zero_add];exact hw7.cell hu) (by simp[Vc.encS,str,Value.oneCell']) (by simp only[List.length_cons,List.length_nil,List.length_map,List.length_take];omega) (by omega) ?_;intro v8 w8 ho8 hg8 hn8;have hb8:Below w.heap.size w w8:=(hB5.trans (hw7.below.mono (by omega))).trans ((Kept.grown (X:=fun j=>w.heap.size≤j) hg8 (fun k hk=>(ho7.block k hk).1)).below (by omega) (fun _ h=>h));rw[←est]at ho8;push_cast -dsimp;exact⟨⟨by omega,by omega⟩,⟨i+1,_,rfl,rfl,by omega,ho8,hb8⟩,by rw[h9];simp only[intOf];omega⟩
  ·have hin:i=s.length:=by omega
   subst hin;rw[List.take_length]at hox;have hjl:=joinR_len s;refine callK_of (join_c (s.map rgP) [32] (by rw[List.length_map];omega) (by omega) _ _ wx hox.sl) ?_;rintro _ w6 ⟨rfl,hb6⟩;have hB6:=hbx.trans (hb6.mono szx);push_cast -dsimp;refine⟨by omega,by simp only[List.length_append,List.length_cons,List.length_nil];omega,?_,hB6⟩;rfl
end Go.Proofs.YtodeeahdhnjpkaaGreatDoor
end
section
namespace Cae
def cutP (c:UInt8)(s:List UInt8):List UInt8×List UInt8×Bool:=if s.contains c then (s.takeWhile (· != c),(s.dropWhile (· != c)).drop 1,true) else (s,[],false)
def splitB (c:UInt8):List UInt8→List (List UInt8)
 | []=>[[]]
 | b::r=>if b == c then []::splitB c r else match splitB c r with
  | []=>[[b]]
  | p::ps=>(b::p)::ps
theorem ib_spec (c:UInt8):∀s:List UInt8,Go.Lib.indexByte s c=if s.contains c then ((s.takeWhile (· != c)).length:Int) else -1
 | []=>rfl
 | b::r=>by
  rw[Go.Lib.indexByte,List.contains_cons,ib_spec c r,List.takeWhile_cons];by_cases h:b=c
  ·subst h;simp
  ·have h1:(b == c)=false:=by simpa using h
   have h2:(c == b)=false:=by simpa using(fun e=>h e.symm:¬c=b)
   have h3:(b != c)=true:=by simp[h]
   rw[h1,h2,h3,Bool.false_or];cases hc:r.contains c with
   | true =>
    have:¬((((r.takeWhile (· != c)).length:Nat):Int) == -1)=true:=by simp
    simp only[if_true,if_neg this,Bool.false_eq_true,if_false,List.length_cons];omega
   | false=>simp
theorem take_tw (p:UInt8→Bool):∀s:List UInt8,s.take (s.takeWhile p).length=s.takeWhile p
 | []=>rfl
 | b::r=>by
  rw[List.takeWhile_cons];split
  ·rw[List.length_cons,List.take_succ_cons,take_tw p r]
  ·rfl
theorem drop_tw (p:UInt8→Bool):∀s:List UInt8,s.drop (s.takeWhile p).length=s.dropWhile p
 | []=>rfl
 | b::r=>by
  rw[List.takeWhile_cons,List.dropWhile_cons];split
  ·rw[List.length_cons,List.drop_succ_cons,drop_tw p r]
  ·rfl
theorem tw_lt {c:UInt8}:∀{s:List UInt8},s.contains c=true→(s.takeWhile (· != c)).length<s.length
 | [],h=>by cases h
 | b::r,h=>by
  rw[List.takeWhile_cons];split
  ·rename_i hb;have:r.contains c=true:=by
    rw[List.contains_cons,Bool.or_eq_true]at h;rcases h with h|h
    ·have:c=b:=by simpa using h
     subst this;simp at hb
    ·exact h
   have:=tw_lt this;simp only[List.length_cons];omega
  ·simp
theorem tw_all {c:UInt8}:∀{s:List UInt8},s.contains c=false→s.takeWhile (· != c)=s
 | [],_=>rfl
 | b::r,h=>by
  rw[List.contains_cons,Bool.or_eq_false_iff]at h;have h1:(b != c)=true:=by have:=h.1;simp at this;simp;exact fun e=>this e.symm
  rw[List.takeWhile_cons,if_pos h1,tw_all h.2]
theorem dropWhile_len (p:UInt8→Bool):∀s:List UInt8,(s.dropWhile p).length≤s.length
 | []=>Nat.le_refl _
 | b::r=>by
  have:=dropWhile_len p r;rw[List.dropWhile_cons];split<;>simp<;>omega
theorem cutP_len (c:UInt8)(s:List UInt8):(cutP c s).1.length≤s.length∧(cutP c s).2.1.length≤s.length:=by
 unfold cutP;split
 ·rename_i h;have h1:=tw_lt h;have h2:=dropWhile_len (· != c) s;refine⟨by show (s.takeWhile (· != c)).length≤_;omega,?_⟩
  show ((s.dropWhile (· != c)).drop 1).length≤_
  rw[List.length_drop];omega
 ·simp
theorem splitB_ne (c:UInt8):∀s,splitB c s≠[]
 | []=>by simp[splitB]
 | b::r=>by
  rw[splitB];split
  ·simp
  ·split<;>simp
theorem splitB_eq (c:UInt8):∀s:List UInt8,splitB c s=s.takeWhile (· != c)::(if s.contains c then splitB c ((s.dropWhile (· != c)).drop 1) else [])
 | []=>rfl
 | b::r=>by
  rw[splitB,List.takeWhile_cons,List.dropWhile_cons,List.contains_cons];by_cases h:b=c
  ·subst h;simp
  ·have h1:(b == c)=false:=by simpa using h
   have h2:(c == b)=false:=by simpa using fun e=>h e.symm
   have h3:(b != c)=true:=by simp[h]
   rw[h1,h2,h3,Bool.false_or,splitB_eq c r];rfl
theorem splitB_len (c:UInt8):∀s:List UInt8,(splitB c s).length≤s.length+1
 | []=>by simp[splitB]
 | b::r=>by
  have h:=splitB_len c r;rw[splitB];split
  ·simp;omega
  ·cases hs:splitB c r with
   | nil=>simp
   | cons p ps=>rw[hs]at h;simp at h ⊢;omega
theorem splitB_mem (c:UInt8):∀(s p:List UInt8),p∈splitB c s→p.length≤s.length
 | [],p,h=>by simp[splitB]at h;subst h;simp
 | b::r,p,h=>by
  rw[splitB]at h;split at h
  ·rcases List.mem_cons.1 h with rfl|h
   ·simp
   ·have:=splitB_mem c r p h;simp;omega
  ·cases hs:splitB c r with
   | nil=>exact absurd hs (splitB_ne c r)
   | cons q qs =>
    rw[hs]at h;rcases List.mem_cons.1 h with rfl|h
    ·have:=splitB_mem c r q (by rw[hs];simp);simp;omega
    ·have:=splitB_mem c r p (by rw[hs];simp[h]);simp;omega
end Cae
namespace Go.Proofs.YtodeeahdhnjpkaaGreatDoor
open Go.Vc Go.Proofs Go.RowKit Cae
attribute [local irreducible] wpL callK valK unitK runK Fun Sl Vc.Own vc vcOps opK pureK
def indexR_ren:Go.Shelf.Ren:=⟨fun|143=>48|219=>82|217=>107|225=>108|224=>109|267=>110|266=>144|314=>145|n=>n,fun|9=>9|3=>3|4=>4|5=>5|46=>109|146=>209|51=>206|n=>n,fun|1=>2|n=>n⟩
theorem indexR:Go.Proofs.Lays.n143 Tryz.prog indexR_ren:={
 mixed:=by kernel_rfl
 f143:=Tryz.func48.trans (congrArg some (by kernel_rfl))
 f217:=Tryz.func107.trans (congrArg some (by kernel_rfl))
 f219:=Tryz.func82.trans (congrArg some (by kernel_rfl))
 f224:=Tryz.func109.trans (congrArg some (by kernel_rfl))
 f225:=Tryz.func108.trans (congrArg some (by kernel_rfl))
 f266:=Tryz.func144.trans (congrArg some (by kernel_rfl))
 f267:=Tryz.func110.trans (congrArg some (by kernel_rfl))
 f314:=Tryz.func145.trans (congrArg some (by kernel_rfl))
 t3:=Tryz.underlying3
 a3:=Tryz.isAgg3
 z3:=Tryz.sizeOf3
 v3:=Tryz.zeroValue3
 t4:=Tryz.underlying4
 a4:=Tryz.isAgg4
 z4:=Tryz.sizeOf4
 v4:=Tryz.zeroValue4
 t5:=Tryz.underlying5
 a5:=Tryz.isAgg5
 z5:=Tryz.sizeOf5
 v5:=Tryz.zeroValue5
 t9:=Tryz.underlying9
 a9:=Tryz.isAgg9
 z9:=Tryz.sizeOf9
 v9:=Tryz.zeroValue9
 t46:=Tryz.underlying109
 a46:=Tryz.isAgg109
 z46:=Tryz.sizeOf109
 v46:=Tryz.zeroValue109
 t51:=Tryz.underlying206
 a51:=Tryz.isAgg206
 z51:=Tryz.sizeOf206
 v51:=Tryz.zeroValue206
 t146:=Tryz.underlying209
 a146:=Tryz.isAgg209
 z146:=Tryz.sizeOf209
 v146:=Tryz.zeroValue209
 g1:=by kernel_rfl }
def indexLR_ren:Go.Shelf.Ren:=⟨fun|219=>82|217=>107|225=>108|224=>109|267=>110|266=>144|314=>145|n=>n,fun|9=>9|3=>3|4=>4|5=>5|46=>109|146=>209|51=>206|n=>n,fun|1=>2|n=>n⟩
theorem indexLR:Go.Proofs.Lays.n219 Tryz.prog indexLR_ren:={
 mixed:=by kernel_rfl
 f217:=Tryz.func107.trans (congrArg some (by kernel_rfl))
 f219:=Tryz.func82.trans (congrArg some (by kernel_rfl))
 f224:=Tryz.func109.trans (congrArg some (by kernel_rfl))
 f225:=Tryz.func108.trans (congrArg some (by kernel_rfl))
 f266:=Tryz.func144.trans (congrArg some (by kernel_rfl))
 f267:=Tryz.func110.trans (congrArg some (by kernel_rfl))
 f314:=Tryz.func145.trans (congrArg some (by kernel_rfl))
 t3:=Tryz.underlying3
 a3:=Tryz.isAgg3
 z3:=Tryz.sizeOf3
 v3:=Tryz.zeroValue3
 t4:=Tryz.underlying4
 a4:=Tryz.isAgg4
 z4:=Tryz.sizeOf4
 v4:=Tryz.zeroValue4
 t5:=Tryz.underlying5
 a5:=Tryz.isAgg5
 z5:=Tryz.sizeOf5
 v5:=Tryz.zeroValue5
 t9:=Tryz.underlying9
 a9:=Tryz.isAgg9
 z9:=Tryz.sizeOf9
 v9:=Tryz.zeroValue9
 t46:=Tryz.underlying109
 a46:=Tryz.isAgg109
 z46:=Tryz.sizeOf109
 v46:=Tryz.zeroValue109
 t51:=Tryz.underlying206
 a51:=Tryz.isAgg206
 z51:=Tryz.sizeOf206
 v51:=Tryz.zeroValue206
 t146:=Tryz.underlying209
 a146:=Tryz.isAgg209
 z146:=Tryz.sizeOf209
 v146:=Tryz.zeroValue209
 g1:=by kernel_rfl }
def cutPreR_ren:Go.Shelf.Ren:=⟨fun|103=>160|210=>191|206=>222|n=>n,fun|9=>9|4=>4|24=>224|3=>3|n=>n,fun|n=>n⟩
theorem cutPreR:Go.Proofs.Lays.n103 Tryz.prog cutPreR_ren:={
 mixed:=by kernel_rfl
 f103:=Tryz.func160.trans (congrArg some (by kernel_rfl))
 f206:=Tryz.func222.trans (congrArg some (by kernel_rfl))
 f210:=Tryz.func191.trans (congrArg some (by kernel_rfl))
 t3:=Tryz.underlying3
 a3:=Tryz.isAgg3
 z3:=Tryz.sizeOf3
 v3:=Tryz.zeroValue3
 t4:=Tryz.underlying4
 a4:=Tryz.isAgg4
 z4:=Tryz.sizeOf4
 v4:=Tryz.zeroValue4
 t9:=Tryz.underlying9
 a9:=Tryz.isAgg9
 z9:=Tryz.sizeOf9
 v9:=Tryz.zeroValue9
 t24:=Tryz.underlying224
 a24:=Tryz.isAgg224
 z24:=Tryz.sizeOf224
 v24:=Tryz.zeroValue224 }
def cutSufR_ren:Go.Shelf.Ren:=⟨fun|104=>161|211=>192|207=>223|n=>n,fun|9=>9|4=>4|24=>224|3=>3|n=>n,fun|n=>n⟩
theorem cutSufR:Go.Proofs.Lays.n104 Tryz.prog cutSufR_ren:={
 mixed:=by kernel_rfl
 f104:=Tryz.func161.trans (congrArg some (by kernel_rfl))
 f207:=Tryz.func223.trans (congrArg some (by kernel_rfl))
 f211:=Tryz.func192.trans (congrArg some (by kernel_rfl))
 t3:=Tryz.underlying3
 a3:=Tryz.isAgg3
 z3:=Tryz.sizeOf3
 v3:=Tryz.zeroValue3
 t4:=Tryz.underlying4
 a4:=Tryz.isAgg4
 z4:=Tryz.sizeOf4
 v4:=Tryz.zeroValue4
 t9:=Tryz.underlying9
 a9:=Tryz.isAgg9
 z9:=Tryz.sizeOf9
 v9:=Tryz.zeroValue9
 t24:=Tryz.underlying224
 a24:=Tryz.isAgg224
 z24:=Tryz.sizeOf224
 v24:=Tryz.zeroValue224 }
theorem index_s (s:List UInt8)(c:UInt8)(w:World):Fun Tryz.prog 48 [str s,str [c]] w fun r w'=>r=.int .i64 (Lib.indexByte s c)∧w'=w:=by
 refine fun_of_calls Tryz.func48 (by kernel_rfl) (by kernel_rfl) ?_;refine Calls.mono (Any.strings_Index_one indexR ⟨s.toArray⟩ c w) ?_;rintro e w' ⟨rfl,rfl⟩;exact⟨_,rfl,rfl,rfl⟩
theorem index_l (s:List UInt8)(c:UInt8)(w:World):Fun Tryz.prog 82 [str s,str [c]] w fun r w'=>r=.int .i64 (Lib.indexByte s c)∧w'=w:=by
 refine fun_of_calls Tryz.func82 (by kernel_rfl) (by kernel_rfl) ?_;refine Calls.mono (Any.stringslite_Index_one indexLR ⟨s.toArray⟩ c w) ?_;rintro e w' ⟨rfl,rfl⟩;exact⟨_,rfl,rfl,rfl⟩
theorem cutPre_c (s p:List UInt8)(w:World):Fun Tryz.prog 160 [str s,str p] w fun r w'=>r=.tuple #[str (Lib.trimPrefix s p),.bool (Lib.hasPrefix s p)]∧w'=w:=by
 refine fun_of_calls Tryz.func160 (by kernel_rfl) (by kernel_rfl) ?_;refine Calls.mono (Any.strings_CutPrefix cutPreR ⟨s.toArray⟩ ⟨p.toArray⟩ w) ?_;rintro e w' ⟨rfl,rfl⟩;exact⟨_,rfl,rfl,rfl⟩
theorem cutSuf_c (s p:List UInt8)(hs:s.length≤9223372036854775807)(w:World):Fun Tryz.prog 161 [str s,str p] w fun r w'=>r=.tuple #[str (Lib.trimSuffix s p),.bool (Lib.hasSuffix s p)]∧w'=w:=by
 refine fun_of_calls Tryz.func161 (by kernel_rfl) (by kernel_rfl) ?_;refine Calls.mono (Any.strings_CutSuffix cutSufR ⟨s.toArray⟩ ⟨p.toArray⟩ w hs) ?_;rintro e w' ⟨rfl,rfl⟩;exact⟨_,rfl,rfl,rfl⟩
theorem cut_l (s:List UInt8)(c:UInt8)(hs:s.length≤1000000000)(w:World):Fun Tryz.prog 194 [str s,str [c]] w fun r w'=>r=.tuple #[str (cutP c s).1,str (cutP c s).2.1,.bool (cutP c s).2.2]∧Below w.heap.size w w':=by
 refine fun_of_vc Tryz.func194 rfl (by kernel_rfl) [4,5,6] rfl ?_;push_cast -dsimp(maxSteps:=4000000) [Tryz.ntmps194];refine callK_of (index_l s c w) ?_;rintro _ w1 ⟨rfl,rfl⟩;rw[ib_spec];unfold cutP;cases hc:s.contains c with
 | false =>
  simp only[Bool.false_eq_true,if_false];push_cast -dsimp;exact Below.refl _ _
 | true =>
  simp only[if_true];have hlt:=tw_lt hc;have hg:∃k,(s.takeWhile (· != c)).length=k:=⟨_,rfl⟩;obtain⟨k,hk⟩:=hg;have h1:s.takeWhile (· != c)=s.take k:=by rw[←hk];exact(take_tw _ s).symm
  have h2:(s.dropWhile (· != c)).drop 1=s.drop (k+1):=by rw[←drop_tw,List.drop_drop,hk]
  rw[h1,h2];rw[hk]at hlt;have h3:(s.take k).length=k:=by rw[List.length_take];omega
  rw[h3];have hge:decide ((k:Int)≥0)=true:=decide_eq_true (by omega);push_cast -dsimp[hge];refine wpL_draw (fun _=>True) mixed (by kernel_rfl) trivial ?_;push_cast -dsimp;refine⟨by omega,by omega,by omega,?_,(Below.refl _ _).drew⟩;rw[show ((k:Int)+1).toNat=k+1 by omega]
theorem cut_c (s:List UInt8)(c:UInt8)(hs:s.length≤1000000000)(w:World):Fun Tryz.prog 163 [str s,str [c]] w fun r w'=>r=.tuple #[str (cutP c s).1,str (cutP c s).2.1,.bool (cutP c s).2.2]∧Below w.heap.size w w':=by
 refine fun_of_vc Tryz.func163 rfl (by kernel_rfl) [4,5,6] rfl ?_;push_cast -dsimp(maxSteps:=4000000) [Tryz.ntmps163];refine callK_of (cut_l s c hs w) ?_;rintro _ w1 ⟨rfl,hb⟩;push_cast -dsimp;exact hb
end Go.Proofs.YtodeeahdhnjpkaaGreatDoor
end
section
namespace Go.Vc
open Go.RowKit
def Byt (w:World)(b:Nat)(e:TypeId)(l:List UInt8):Prop :=
 ∃(cs:Array Value) (n:Nat),w.heap[b]?=some (.cells cs e (n,n+1))∧cs.size≤n∧∀(j:Nat) (c:UInt8),l[j]?=some c→cs[j]?=some (Value.int IntKind.u8 (c.toNat:Int))
theorem Byt.cell {w:World}{b:Nat}{e:TypeId}{l:List UInt8}(h:Byt w b e l){j:Nat}{c:UInt8}(hc:l[j]?=some c):w.cell? ⟨b,j,none⟩=some (.int .u8 (c.toNat:Int)):=by
 obtain⟨cs,n,h,_,hh⟩:=h;simp[World.cell?,h,hh j c hc]
theorem bytesK {P:Program}{s d e:TypeId}{l:List UInt8}{t:Fr}{w:World}{K:VK}{Q:EP}{p}(hs:P.underlying s=some .string)(hd:P.underlying d=some (.slice e))(he:P.underlying e=some (.int .u8))
  (kk:∀c w',l.length≤c→Byt w' w.heap.size e l→Below w.heap.size w w'→K (.slice (some ⟨w.heap.size,0,none⟩) l.length c) w'):valK P (convert s d (str l)) t w K Q p:=by
 have hr:=run_bytes_of_string (P:=P) w s d e ⟨l.toArray⟩ hs hd he;have hsz:ByteArray.size ⟨l.toArray⟩=l.length:=by simp[ByteArray.size]
 refine valK_of hr ?_;rw[hsz];refine kk _ _ (grownCap_ge _ _ _ _) ⟨bytesRow ⟨l.toArray⟩ (grownCap w l.length 0 e),(bytesRow ⟨l.toArray⟩ (grownCap w l.length 0 e)).size,?_,Nat.le_refl _,fun j c hj=>?_⟩ ((Below.refl w.heap.size w).drew.alloc (Nat.le_refl _) _)
 ·exact heap_alloc_new w.drew _
 ·have hlt:=(List.getElem?_eq_some_iff.1 hj).1
  have:=bytesRow_at ⟨l.toArray⟩ (grownCap w l.length 0 e) j (by simpa using hlt);rw[this];have:l[j]?=some l[j]:=List.getElem?_eq_getElem hlt;rw[this]at hj;cases hj;simp
end Go.Vc
end
section
namespace Cae
def dv (b:UInt8):Nat:=if b.toNat≤57 then b.toNat-48 else b.toNat-87
def isHex (b:UInt8):Bool:=(decide (48≤b.toNat) && decide (b.toNat≤57)) || (decide (97≤b.toNat) && decide (b.toNat≤102))
def hexV (l:List UInt8):Nat:=l.foldl (fun m b=>16*m+dv b) 0
theorem dig_hex:∀d:Nat,d<16→isHex (dig d)=true∧dv (dig d)=d:=by decide
theorem hexF_all:∀(f n:Nat) (acc:List UInt8),n<16 ^ (f+1)→(∀b∈acc,isHex b=true)→∀b∈hexF f n acc,isHex b=true
 | 0,n,acc,hn,h=>by
  rw[hexF];intro b hb;rcases List.mem_cons.1 hb with rfl|hb
  ·exact(dig_hex n (by omega)).1
  ·exact h b hb
 | f+1,n,acc,hn,h=>by
  rw[hexF];split
  ·intro b hb;rcases List.mem_cons.1 hb with rfl|hb
   ·exact(dig_hex n (by omega)).1
   ·exact h b hb
  ·refine hexF_all f (n / 16) _ (Nat.div_lt_of_lt_mul (by rw[Nat.mul_comm,←Nat.pow_succ];exact hn)) ?_;intro b hb;rcases List.mem_cons.1 hb with rfl|hb
   ·exact(dig_hex (n % 16) (by omega)).1
   ·exact h b hb
theorem foldl_hex (l:List UInt8):∀m:Nat,l.foldl (fun m b=>16*m+dv b) m=16 ^ l.length*m+hexV l:=by
 unfold hexV;induction l with
 | nil=>intro m;simp
 | cons b l ih =>
  intro m;rw[List.foldl_cons,List.foldl_cons,ih,ih (16*0+dv b),List.length_cons,Nat.pow_succ,Nat.mul_add];have:16 ^ l.length*(16*m)=16 ^ l.length*16*m:=by rw[Nat.mul_assoc]
  rw[this];simp;omega
theorem hexV_cons (b:UInt8)(l:List UInt8):hexV (b::l)=16 ^ l.length*dv b+hexV l:=by
 have:=foldl_hex l (16*0+dv b);unfold hexV at this ⊢
 rw[List.foldl_cons,this];simp
theorem hexF_val:∀(f n:Nat) (acc:List UInt8),n<16 ^ (f+1)→hexV (hexF f n acc)=16 ^ acc.length*n+hexV acc
 | 0,n,acc,hn=>by rw[hexF,hexV_cons,(dig_hex n (by omega)).2]
 | f+1,n,acc,hn=>by
  rw[hexF];split
  ·rw[hexV_cons,(dig_hex n (by omega)).2]
  ·rw[hexF_val f (n / 16) _ (Nat.div_lt_of_lt_mul (by rw[Nat.mul_comm,←Nat.pow_succ];exact hn)),hexV_cons,(dig_hex (n % 16) (by omega)).2,List.length_cons,Nat.pow_succ];have h1:=Nat.div_add_mod n 16;have h2:16 ^ acc.length*n=16 ^ acc.length*16*(n / 16)+16 ^ acc.length*(n % 16):=by
    rw[Nat.mul_assoc,←Nat.mul_add,h1]
   rw[h2];omega
theorem hexP_all {n:Nat}(hn:n<4294967296):∀b∈hexP n,isHex b=true:=hexF_all 8 n [] (by omega) (fun b h=>by cases h)
theorem hexP_val {n:Nat}(hn:n<4294967296):hexV (hexP n)=n:=by
 unfold hexP;rw[hexF_val 8 n [] (by omega)];simp[hexV]
theorem hexF_ne:∀(f n:Nat) (acc:List UInt8),hexF f n acc≠[]
 | 0,n,acc=>by rw[hexF];simp
 | f+1,n,acc=>by
  rw[hexF];split
  ·simp
  ·exact hexF_ne f _ _
theorem hexP_ne (n:Nat):hexP n≠[]:=hexF_ne 8 n []
theorem hexV_snoc (l:List UInt8)(b:UInt8):hexV (l++[b])=16*hexV l+dv b:=by
 unfold hexV;rw[List.foldl_append];rfl
theorem hexV_take (l:List UInt8)(i:Nat):hexV (l.take i)≤hexV l:=by
 have e:=foldl_hex (l.drop i) (hexV (l.take i));have h0:hexV l=16 ^ (l.drop i).length*hexV (l.take i)+hexV (l.drop i):=by
  rw[←e]
  conv=>lhs;rw[←List.take_append_drop i l]
  unfold hexV;rw[List.foldl_append]
 have h1:1≤16 ^ (l.drop i).length:=Nat.pos_of_ne_zero (by simp);rw[h0];exact Nat.le_trans (Nat.le_mul_of_pos_left (hexV (l.take i)) h1) (Nat.le_add_right _ _)
end Cae
namespace Go.Vc
open Go.RowKit
theorem eq_1ii {L:VP}{other:Prop}(ty v ty' v' c)(p):eqNilK 1 c .eql (.iface ty v) (.iface ty' v') L other p=other:=(rfl)
theorem neq_1ii {L:VP}{other:Prop}(ty v ty' v' c)(p):eqNilK 1 c .neq (.iface ty v) (.iface ty' v') L other p=other:=(rfl)
attribute [push_cast] eq_1ii neq_1ii
theorem neqIfaceK {P:Program}{o:Oper}{t:Fr}{w:World}{K:VK}{Q:EP}{ty:TypeId}{x y:Operand}{z:TypeId}{te:TypeId}{k q:IntKind}{a b:Int}{ms:Array (String×TypeId)}(ho:o.op=.binOp .neq ty x y z)(hx:ev t x=.iface te (.int k a))(hy:ev t y=.iface te (.int k b))
  (ht:P.underlying ty=some (.interface ms)) (hc:(P.info? te).map (·.comparable)=some true) (he:P.underlying te=some (.int q)) (kk:K (.bool (!(a == b))) w):runK P o t w K Q .mk:=by
 refine runK_val (s:=do eqGuard .neq ty x y (ev t x) (ev t y);binOp .neq ty (ev t x) (ev t y)) (by unfold execOp;simp only[ho]) (valK_of (w':=w) ?_ kk);rw[Sem.run_bind,eqGuard_plain (.inl (by rw[hx];simp)) (by intro c;rw[hx];simp)]
 show (binOp .neq ty (ev t x) (ev t y)).run P w=_
 rw[hx,hy];exact Lib.run_neq_iface_int w a b ht hc he
end Go.Vc
namespace Go.Proofs.YtodeeahdhnjpkaaGreatDoor
open Go.Vc Go.Proofs Go.RowKit Cae
attribute [local irreducible] wpL callK valK unitK runK Fun Sl Vc.Own vc vcOps opK pureK
theorem low_b:∀b:Nat,b<256→0≤bitop .or .u8 (b:Int) 32∧bitop .or .u8 (b:Int) 32≤255∧(97≤b→b≤102→bitop .or .u8 (b:Int) 32=b)∧(b<48→bitop .or .u8 (b:Int) 32<97)∧(b=95→bitop .or .u8 (b:Int) 32=127):=by decide +kernel
theorem lower_c (b:Int)(w:World):Fun Tryz.prog 213 [.int .u8 b] w fun r w'=>r=.int .u8 (bitop .or .u8 b 32)∧w'=w:=by
 refine fun_of_vc Tryz.func213 rfl (by kernel_rfl) [2] rfl ?_;push_cast -dsimp(maxSteps:=4000000) [Tryz.ntmps213]
def PErr (e:Value):Prop:=e=.nilIface∨e=.iface 259 (.int .i64 1)∨e=.iface 259 (.int .i64 2)
theorem parseUint_c (bits:Int)(hbits:bits=32∨bits=40)(s:List UInt8)(hs:s.length≤1000000000)(w:World):Fun Tryz.prog 185 [str s,.int .i64 16,.int .i64 bits] w fun r w'=>(∃(v:Nat) (e:Value),r=.tuple #[.int .u64 (v:Int),e]∧v<1099511627776∧PErr e∧(∀n<4294967296,s=hexP n→v=n∧e=.nilIface))∧Below w.heap.size w w':=by
 refine fun_of_vc Tryz.func185 rfl (by kernel_rfl) [6,7] rfl ?_;push_cast -dsimp(maxSteps:=4000000) [Tryz.ntmps185];by_cases hne:s=[]
 ·subst hne;have e0:decide (([]:List UInt8)=[])=true:=rfl;push_cast -dsimp(maxSteps:=4000000) [e0];refine⟨⟨0,_,rfl,by omega,.inr (.inr rfl),fun n _ h=>absurd h.symm (hexP_ne n)⟩,Below.refl _ _⟩
 have ef:decide False=false:=rfl;have emx:∃mx:Nat,IntKind.u64.wrap (IntKind.u64.wrap (1*2 ^ min (IntKind.u64.wrap bits).toNat IntKind.u64.bits)-1)=(mx:Int)∧4294967295≤mx∧mx<1099511627776:=by
  rcases hbits with rfl|rfl
  ·exact⟨4294967295,by decide,by omega,by omega⟩
  ·exact⟨1099511627775,by decide,by omega,by omega⟩
 obtain⟨mx,emx,hmx1,hmx2⟩:=emx;push_cast -dsimp(maxSteps:=4000000) [ef];refine⟨fun h=>absurd h hne,fun _=>⟨fun h=>by omega,fun _=>⟨fun _=>⟨fun h=>by omega,fun _=>⟨by rcases hbits with rfl|rfl<;>decide,?_⟩⟩,fun h=>by omega⟩⟩⟩;rw[emx];refine bytesK (e:=5) (by kernel_rfl) (by kernel_rfl) (by kernel_rfl) ?_;intro cap w1 hcap hB1 hb1;have sz1:=hb1.size;push_cast -dsimp(maxSteps:=4000000) [ef];refine wpL_loop [6,7,12,13,15,16,17,101,102,103,104,105,106,107,108,109,110,111,112,113,114,115,116,117,118,119,120,121,122,123,124,125,126,127,128,129,130,131,132,133,134,135,136,137,138,139,140,141,142,143,144,145,146,147,148,149,150,151,152,153,154,155,156,157,158,159,160,161,162,163] (fun z wx=>∃(i m:Nat),z 101=.int .i64 (i:Int)∧z 13=.int .u64 (m:Int)∧z 12=.bool false∧i≤s.length∧m≤mx∧((∀b∈s,isHex b=true)→hexV s<4294967296→m=hexV (s.take i))∧Below w.heap.size w wx∧Byt wx w.heap.size 5 s) (fun z _=>s.length-(intOf (z 101)).toNat) ?_ ?_
 ·exact⟨0,0,rfl,rfl,rfl,Nat.zero_le _,by omega,fun _ _=>rfl,hb1,hB1⟩
 ·intro z wx hI;obtain⟨i,m,h101,h13,h12,hi,hm,hv,hbx,hBx⟩:=hI;push_cast -dsimp(maxSteps:=4000000) [h101,h13,h12,ef];refine⟨fun hlt=>?_,fun hge=>?_⟩
  ·have hg:=lt_get (l:=s) (i:=i) (by omega);obtain⟨x,hx,hxm,hxd,hxt⟩:=hg;have cx:=hBx.cell hx;have hb8:x.toNat<256:=x.toNat_lt;have hlow:=low_b x.toNat hb8;have hhex:(∀b∈s,isHex b=true)→isHex x=true:=fun h=>h x hxm;have hdvx:dv x=if x.toNat≤57 then x.toNat-48 else x.toNat-87:=rfl
   have hisx:isHex x=((decide (48≤x.toNat) && decide (x.toNat≤57)) || (decide (97≤x.toNat) && decide (x.toNat≤102))):=rfl;have hgb:∃b,x.toNat=b:=⟨_,rfl⟩;obtain⟨b,hb⟩:=hgb;rw[hb]at cx hb8 hlow hdvx hisx;have hgl:∃l,bitop .or .u8 (b:Int) 32=l:=⟨_,rfl⟩;obtain⟨l,hl⟩:=hgl;rw[hl]at hlow;have hgl:∃lo:Nat,l=(lo:Int):=⟨l.toNat,by omega⟩;obtain⟨lo,hlo⟩:=hgl;subst hlo;have ecut:decide ((m:Int)≥1152921504606846976)=false:=decide_eq_false (by omega);have e16:IntKind.u8.wrap 16=16:=by decide
   have e16':IntKind.u64.wrap 16=16:=by decide
   have hgk:∃k,16*m=k:=⟨_,rfl⟩;obtain⟨k,hk⟩:=hgk;have ek:IntKind.u64.wrap ((m:Int)*16)=(k:Int):=by
    rw[show (m:Int)*16=(k:Int) by omega,wrap_u64_nat,Nat.mod_eq_of_lt (by omega)]
   refine⟨by omega,?_⟩;obtain⟨hl0,hl1,hl2,hl3,hl4⟩:=hlow;by_cases hA:48≤b∧b≤57
   ·have e95:decide ((b:Int)=95)=false:=decide_eq_false (by omega);have e1:decide (48≤(b:Int))=true:=decide_eq_true (by omega);have e2:decide ((b:Int)≤57)=true:=decide_eq_true (by omega);have hgd:∃dn:Nat,b-48=dn:=⟨_,rfl⟩;obtain⟨dn,hdn0⟩:=hgd;have edn:IntKind.u8.wrap ((b:Int)-48)=(dn:Int):=by
     rw[show (b:Int)-48=(dn:Int) by omega,wrap_u8_nat,Nat.mod_eq_of_lt (by omega)]
    have hdn:isHex x=true→dn=dv x:=fun _=>by rw[hdvx,if_pos hA.2];exact hdn0.symm
    by_cases hd:dn<16
    ·have ed:decide ((dn:Int)≥16)=false:=decide_eq_false (by omega);have ed64:IntKind.u64.wrap (dn:Int)=(dn:Int):=by rw[wrap_u64_nat,Nat.mod_eq_of_lt (by omega)]
     have hgq:∃q,k+dn=q:=⟨_,rfl⟩;obtain⟨q,hq⟩:=hgq;have eq:IntKind.u64.wrap ((k:Int)+(dn:Int))=(q:Int):=by
      rw[show (k:Int)+(dn:Int)=(q:Int) by omega,wrap_u64_nat,Nat.mod_eq_of_lt (by omega)]
     have elt:decide ((q:Int)<(k:Int))=false:=decide_eq_false (by omega);have hm':(∀b∈s,isHex b=true)→hexV s<4294967296→q=hexV (s.take (i+1)):=fun h1 h2=>by
      have:=hv h1 h2;have h3:=hdn (hhex h1);rw[hxt,hexV_snoc,←this,←h3];omega
     by_cases hr:q≤mx
     ·have emax:decide ((q:Int)>(mx:Int))=false:=decide_eq_false (by omega);push_cast -dsimp(maxSteps:=4000000) [cx,ed,ecut,e16,e16',ek,ed64,eq,elt,emax,ef,e95,e1,e2,edn];exact⟨⟨by omega,by omega⟩,⟨i+1,q,rfl,rfl,by omega,hr,hm',hbx,hBx⟩,by rw[h101];simp only[intOf];omega⟩
     ·have emax:decide ((q:Int)>(mx:Int))=true:=decide_eq_true (by omega);push_cast -dsimp(maxSteps:=4000000) [cx,ed,ecut,e16,e16',ek,ed64,eq,elt,emax,ef,e95,e1,e2,edn];refine⟨⟨mx,_,rfl,by omega,.inr (.inl rfl),fun n hn h=>?_⟩,hbx⟩;have h1:=hm' (by rw[h];exact hexP_all hn) (by rw[h,hexP_val hn];exact hn);have h2:=hexV_take s (i+1);have h3:=hexP_val hn;rw[←h]at h3;omega
    ·have ed:decide ((dn:Int)≥16)=true:=decide_eq_true (by omega);push_cast -dsimp(maxSteps:=4000000) [cx,ed,e16,ef,e95,e1,e2,edn];refine⟨⟨0,_,rfl,by omega,.inr (.inr rfl),fun n hn h=>?_⟩,hbx⟩;have h3:=hdn (hhex (by rw[h];exact hexP_all hn));have h4:=hhex (by rw[h];exact hexP_all hn);rw[hisx,Bool.or_eq_true,Bool.and_eq_true,Bool.and_eq_true,decide_eq_true_eq,decide_eq_true_eq,decide_eq_true_eq,decide_eq_true_eq]at h4;rw[hdvx]at h3;split at h3<;>omega
   ·by_cases hB:97≤lo∧lo≤122
    ·have e95:decide ((b:Int)=95)=false:=decide_eq_false (fun h=>by have:=hl4 (by omega);omega);have e1:decide (48≤(b:Int))=true:=decide_eq_true (Classical.byContradiction fun h=>by have:=hl3 (by omega);omega);have e2:decide ((b:Int)≤57)=false:=decide_eq_false (fun h=>hA ⟨Classical.byContradiction fun h=>by have:=hl3 (by omega);omega,by omega⟩);have e3:decide (97≤(lo:Int))=true:=decide_eq_true (by omega);have e4:decide ((lo:Int)≤122)=true:=decide_eq_true (by omega);have hgd:∃dn:Nat,lo-87=dn:=⟨_,rfl⟩;obtain⟨dn,hdn0⟩:=hgd;have hgl2:∃l2:Nat,lo-97=l2:=⟨_,rfl⟩;obtain⟨l2,hl20⟩:=hgl2;have edn:IntKind.u8.wrap ((lo:Int)-97)=(l2:Int):=by
      rw[show (lo:Int)-97=(l2:Int) by omega,wrap_u8_nat,Nat.mod_eq_of_lt (by omega)]
     have edn2:IntKind.u8.wrap ((l2:Int)+10)=(dn:Int):=by
      rw[show (l2:Int)+10=(dn:Int) by omega,wrap_u8_nat,Nat.mod_eq_of_lt (by omega)]
     have hdn:isHex x=true→dn=dv x:=fun h=>by
      rw[hisx,Bool.or_eq_true,Bool.and_eq_true,Bool.and_eq_true,decide_eq_true_eq,decide_eq_true_eq,decide_eq_true_eq,decide_eq_true_eq]at h;have h5:=hl2 (by omega) (by omega);rw[hdvx,if_neg (by omega)];omega
     push_cast -dsimp(maxSteps:=4000000) [cx,e95,e1,e2,ef];refine callK_of (lower_c (b:Int) wx) ?_;rintro _ w2 ⟨rfl,rfl⟩;rw[hl];push_cast -dsimp(maxSteps:=4000000) [e3,ef];refine callK_of (lower_c (b:Int) w2) ?_;rintro _ w3 ⟨rfl,rfl⟩;rw[hl];push_cast -dsimp(maxSteps:=4000000) [e4,ef];refine callK_of (lower_c (b:Int) w3) ?_;rintro _ w4 ⟨rfl,rfl⟩;rw[hl];by_cases hd:dn<16
     ·have ed:decide ((dn:Int)≥16)=false:=decide_eq_false (by omega);have ed64:IntKind.u64.wrap (dn:Int)=(dn:Int):=by rw[wrap_u64_nat,Nat.mod_eq_of_lt (by omega)]
      have hgq:∃q,k+dn=q:=⟨_,rfl⟩;obtain⟨q,hq⟩:=hgq;have eq:IntKind.u64.wrap ((k:Int)+(dn:Int))=(q:Int):=by
       rw[show (k:Int)+(dn:Int)=(q:Int) by omega,wrap_u64_nat,Nat.mod_eq_of_lt (by omega)]
      have elt:decide ((q:Int)<(k:Int))=false:=decide_eq_false (by omega);have hm':(∀b∈s,isHex b=true)→hexV s<4294967296→q=hexV (s.take (i+1)):=fun h1 h2=>by
       have:=hv h1 h2;have h3:=hdn (hhex h1);rw[hxt,hexV_snoc,←this,←h3];omega
      by_cases hr:q≤mx
      ·have emax:decide ((q:Int)>(mx:Int))=false:=decide_eq_false (by omega);push_cast -dsimp(maxSteps:=4000000) [cx,ed,ecut,e16,e16',ek,ed64,eq,elt,emax,ef,edn,edn2];exact⟨⟨by omega,by omega⟩,⟨i+1,q,rfl,rfl,by omega,hr,hm',hbx,hBx⟩,by rw[h101];simp only[intOf];omega⟩
      ·have emax:decide ((q:Int)>(mx:Int))=true:=decide_eq_true (by omega);push_cast -dsimp(maxSteps:=4000000) [cx,ed,ecut,e16,e16',ek,ed64,eq,elt,emax,ef,edn,edn2];refine⟨⟨mx,_,rfl,by omega,.inr (.inl rfl),fun n hn h=>?_⟩,hbx⟩;have h1:=hm' (by rw[h];exact hexP_all hn) (by rw[h,hexP_val hn];exact hn);have h2:=hexV_take s (i+1);have h3:=hexP_val hn;rw[←h]at h3;omega
     ·have ed:decide ((dn:Int)≥16)=true:=decide_eq_true (by omega);push_cast -dsimp(maxSteps:=4000000) [cx,ed,e16,ef,edn,edn2];refine⟨⟨0,_,rfl,by omega,.inr (.inr rfl),fun n hn h=>?_⟩,hbx⟩;have h3:=hdn (hhex (by rw[h];exact hexP_all hn));have h4:=hhex (by rw[h];exact hexP_all hn);rw[hisx,Bool.or_eq_true,Bool.and_eq_true,Bool.and_eq_true,decide_eq_true_eq,decide_eq_true_eq,decide_eq_true_eq,decide_eq_true_eq]at h4;rw[hdvx]at h3;split at h3<;>omega
    ·by_cases h95:b=95
     ·have:=hl4 h95;have e95:decide ((b:Int)=95)=true:=decide_eq_true (by omega);have e1:decide (48≤(b:Int))=true:=decide_eq_true (by omega);have e2:decide ((b:Int)≤57)=false:=decide_eq_false (by omega);have e3:decide (97≤(lo:Int))=true:=decide_eq_true (by omega);have e4:decide ((lo:Int)≤122)=false:=decide_eq_false (by omega);push_cast -dsimp(maxSteps:=4000000) [cx,e95,e1,e2,ef];refine callK_of (lower_c (b:Int) wx) ?_;rintro _ w2 ⟨rfl,rfl⟩;rw[hl];push_cast -dsimp(maxSteps:=4000000) [e3,ef];refine callK_of (lower_c (b:Int) w2) ?_;rintro _ w3 ⟨rfl,rfl⟩;rw[hl];push_cast -dsimp(maxSteps:=4000000) [e4,ef];refine⟨⟨0,_,rfl,by omega,.inr (.inr rfl),fun n hn h=>?_⟩,hbx⟩
      have:=hhex (by rw[h];exact hexP_all hn);rw[hisx,Bool.or_eq_true,Bool.and_eq_true,Bool.and_eq_true,decide_eq_true_eq,decide_eq_true_eq,decide_eq_true_eq,decide_eq_true_eq]at this;omega
     ·rcases Nat.lt_or_ge b 48 with h48|h48
      ·have:=hl3 h48;have e95:decide ((b:Int)=95)=false:=decide_eq_false (by omega);have e1:decide (48≤(b:Int))=false:=decide_eq_false (by omega);have e2:decide ((b:Int)≤57)=true:=decide_eq_true (by omega);have e3:decide (97≤(lo:Int))=false:=decide_eq_false (by omega);push_cast -dsimp(maxSteps:=4000000) [cx,e95,e1,e2,ef];refine callK_of (lower_c (b:Int) wx) ?_;rintro _ w2 ⟨rfl,rfl⟩;rw[hl];push_cast -dsimp(maxSteps:=4000000) [e3,ef];refine⟨⟨0,_,rfl,by omega,.inr (.inr rfl),fun n hn h=>?_⟩,hbx⟩
       have:=hhex (by rw[h];exact hexP_all hn);rw[hisx,Bool.or_eq_true,Bool.and_eq_true,Bool.and_eq_true,decide_eq_true_eq,decide_eq_true_eq,decide_eq_true_eq,decide_eq_true_eq]at this;omega
      ·rcases Nat.lt_or_ge lo 97 with h97|h97
       ·skip;have e95:decide ((b:Int)=95)=false:=decide_eq_false (by omega);have e1:decide (48≤(b:Int))=true:=decide_eq_true (by omega);have e2:decide ((b:Int)≤57)=false:=decide_eq_false (by omega);have e3:decide (97≤(lo:Int))=false:=decide_eq_false (by omega);push_cast -dsimp(maxSteps:=4000000) [cx,e95,e1,e2,ef];refine callK_of (lower_c (b:Int) wx) ?_;rintro _ w2 ⟨rfl,rfl⟩;rw[hl];push_cast -dsimp(maxSteps:=4000000) [e3,ef];refine⟨⟨0,_,rfl,by omega,.inr (.inr rfl),fun n hn h=>?_⟩,hbx⟩
        have:=hhex (by rw[h];exact hexP_all hn);rw[hisx,Bool.or_eq_true,Bool.and_eq_true,Bool.and_eq_true,decide_eq_true_eq,decide_eq_true_eq,decide_eq_true_eq,decide_eq_true_eq]at this;omega
       ·skip;have e95:decide ((b:Int)=95)=false:=decide_eq_false (by omega);have e1:decide (48≤(b:Int))=true:=decide_eq_true (by omega);have e2:decide ((b:Int)≤57)=false:=decide_eq_false (by omega);have e3:decide (97≤(lo:Int))=true:=decide_eq_true (by omega);have e4:decide ((lo:Int)≤122)=false:=decide_eq_false (by omega);push_cast -dsimp(maxSteps:=4000000) [cx,e95,e1,e2,ef];refine callK_of (lower_c (b:Int) wx) ?_;rintro _ w2 ⟨rfl,rfl⟩;rw[hl];push_cast -dsimp(maxSteps:=4000000) [e3,ef];refine callK_of (lower_c (b:Int) w2) ?_;rintro _ w3 ⟨rfl,rfl⟩;rw[hl];push_cast -dsimp(maxSteps:=4000000) [e4,ef];refine⟨⟨0,_,rfl,by omega,.inr (.inr rfl),fun n hn h=>?_⟩,hbx⟩
        have:=hhex (by rw[h];exact hexP_all hn);rw[hisx,Bool.or_eq_true,Bool.and_eq_true,Bool.and_eq_true,decide_eq_true_eq,decide_eq_true_eq,decide_eq_true_eq,decide_eq_true_eq]at this;omega
  ·refine⟨⟨m,_,rfl,by omega,.inl rfl,fun n hn h=>⟨?_,rfl⟩⟩,hbx⟩
   have:=hv (by rw[h];exact hexP_all hn) (by rw[h,hexP_val hn];exact hn);rw[this,List.take_of_length_le (by omega),h,hexP_val hn]
end Go.Proofs.YtodeeahdhnjpkaaGreatDoor
end
section
namespace Cae
def PrintOf (s:List UInt8)(l:List Rg):Prop:=setRight (-2) l=true∧printP l=s
theorem hex_no {n:Nat}(hn:n<4294967296){c:UInt8}(hc:isHex c=false):(hexP n).contains c=false:=by
 cases h:(hexP n).contains c with
 | false=>rfl
 | true =>
  have hm:c∈hexP n:=by simpa using h
  have:=hexP_all hn c hm;rw[hc]at this;cases this
theorem contains_app (a b:List UInt8)(c:UInt8):(a++b).contains c=(a.contains c || b.contains c):=by
 induction a with
 | nil=>simp
 | cons x a ih=>rw[List.cons_append,List.contains_cons,List.contains_cons,ih,Bool.or_assoc]
theorem rgP_no {r:Rg}(h0:0≤r.1)(h1:r.1<4294967296)(h2:r.2<4294967296):(rgP r).contains 32=false:=by
 unfold rgP;rw[contains_app,hex_no (by omega) (by rfl)];split
 ·rw[List.contains_cons,hex_no (by omega) (by rfl)];rfl
 ·rfl
theorem rgP_ne (r:Rg):rgP r≠[]:=by
 unfold rgP;intro h;exact hexP_ne _ (List.append_eq_nil_iff.1 h).1
theorem tw_app {c:UInt8}:∀{a b:List UInt8},a.contains c=false→(a++c::b).takeWhile (· != c)=a∧(a++c::b).dropWhile (· != c)=c::b
 | [],b,_=>by simp
 | x::a,b,h=>by
  rw[List.contains_cons,Bool.or_eq_false_iff]at h;have h1:(x != c)=true:=by have:=h.1;simp at this;simp;exact fun e=>this e.symm
  have ih:=tw_app (b:=b) h.2;rw[List.cons_append,List.takeWhile_cons,List.dropWhile_cons,if_pos h1,if_pos h1,ih.1,ih.2];exact⟨rfl,rfl⟩
theorem split_no {c:UInt8}{a:List UInt8}(h:a.contains c=false):splitB c a=[a]:=by
 rw[splitB_eq,h,tw_all h];rfl
theorem split_app {c:UInt8}{a b:List UInt8}(h:a.contains c=false):splitB c (a++c::b)=a::splitB c b:=by
 rw[splitB_eq,(tw_app h).1,(tw_app h).2];have:(a++c::b).contains c=true:=by rw[contains_app];simp
 rw[if_pos this];rfl
theorem split_join {c:UInt8}:∀(x:List UInt8) (l:List (List UInt8)),(∀p∈x::l,p.contains c=false)→splitB c (Go.Lib.join (x::l) [c])=x::l
 | x,[],h=>by rw[Go.Lib.join_one];exact split_no (h x (by simp))
 | x,y::l,h=>by
  have e:Go.Lib.join (x::y::l) [c]=x++c::Go.Lib.join (y::l) [c]:=by
   rw[Go.Lib.join_cons,Go.Lib.join_cons];simp[Go.Lib.joinTail]
  rw[e,split_app (h x (by simp)),split_join y l (fun p hp=>h p (List.mem_cons_of_mem _ hp))]
theorem cut_rg {r:Rg}(h0:0≤r.1)(h1:r.1<4294967296)(h2:r.2<4294967296)(hlt:r.1<r.2):cutP 45 (rgP r)=(hexP r.1.toNat,hexP r.2.toNat,true):=by
 have hn:=hex_no (n:=r.1.toNat) (c:=45) (by omega) (by rfl);have e:rgP r=hexP r.1.toNat++45::hexP r.2.toNat:=by unfold rgP;rw[if_pos hlt]
 unfold cutP;rw[e,(tw_app hn).1,(tw_app hn).2,contains_app];simp
theorem cut_rg1 {r:Rg}(h0:0≤r.1)(h1:r.1<4294967296)(hlt:¬r.1<r.2):cutP 45 (rgP r)=(hexP r.1.toNat,[],false):=by
 have hn:=hex_no (n:=r.1.toNat) (c:=45) (by omega) (by rfl);have e:rgP r=hexP r.1.toNat:=by unfold rgP;rw[if_neg hlt,List.append_nil]
 unfold cutP;rw[e,hn];rfl
theorem mem_right:∀{s:List Rg} {a:Int},-2≤a→setRight a s=true→∀r∈s,0≤r.1∧r.1≤r.2∧r.2≤1114111
 | [],_,_,_=>fun r hr=>by cases hr
 | q::s,a,ha,h=>by
  rw[setRight_con]at h;intro r hr;rcases List.mem_cons.1 hr with rfl|hr
  ·omega
  ·exact mem_right (by omega) h.2 r hr
def bodyP (l:List Rg):List UInt8:=Go.Lib.join (l.map rgP) [32]
theorem bodyP_nil {l:List Rg}(h:bodyP l=[]):l=[]:=by
 cases l with
 | nil=>rfl
 | cons r l =>
  unfold bodyP at h;rw[List.map_cons,Go.Lib.join_cons]at h;exact absurd (List.append_eq_nil_iff.1 h).1 (rgP_ne r)
theorem split_body {l:List Rg}(h:setRight (-2) l=true)(hne:bodyP l≠[]):splitB 32 (bodyP l)=l.map rgP:=by
 cases l with
 | nil=>exact absurd rfl hne
 | cons r l =>
  unfold bodyP;rw[List.map_cons];refine split_join _ _ fun p hp=>?_;rw[←List.map_cons]at hp;obtain⟨q,hq,rfl⟩:=List.mem_map.1 hp
  have:=mem_right (by omega) h q hq;exact rgP_no (by omega) (by omega) (by omega)
theorem print_pre {s:List UInt8}{l:List Rg}(h:PrintOf s l):Go.Lib.hasPrefix s [91]=true∧Go.Lib.hasSuffix (Go.Lib.trimPrefix s [91]) [93]=true∧Go.Lib.trimSuffix (Go.Lib.trimPrefix s [91]) [93]=bodyP l:=by
 obtain⟨hr,rfl⟩:=h;have h1:Go.Lib.hasPrefix (printP l) [91]=true:=by simp[Go.Lib.hasPrefix,printP]
 have h2:Go.Lib.trimPrefix (printP l) [91]=bodyP l++[93]:=by
  unfold Go.Lib.trimPrefix;rw[h1];rfl
 have h3:Go.Lib.hasSuffix (bodyP l++[93]) [93]=true:=by
  unfold Go.Lib.hasSuffix;rw[List.isSuffixOf_iff_suffix];exact⟨bodyP l,rfl⟩
 rw[h2];refine⟨h1,h3,?_⟩;unfold Go.Lib.trimSuffix;rw[h3,if_pos rfl];simp
theorem round_plain {body x:List UInt8}{pre:List (List UInt8)}{l:List Rg}(h:setRight (-2) l=true)(hb:body=bodyP l)(hne:body≠[])(hp:pre++[x] <+: splitB 32 body):∃r,l[pre.length]?=some r∧x=rgP r∧0≤r.1∧r.1≤r.2∧r.2≤1114111:=by
 subst hb;rw[split_body h hne]at hp;obtain⟨rest,hr⟩:=hp;have h1:(l.map rgP)[pre.length]?=some x:=by rw[←hr,List.append_assoc];simp
 rw[List.getElem?_map]at h1;cases hl:l[pre.length]? with
 | none=>rw[hl]at h1;cases h1
 | some r =>
  rw[hl]at h1;cases h1;exact⟨r,rfl,rfl,mem_right (by omega) h r (List.mem_of_getElem? hl)⟩
structure Tok where
 kind:Nat
 text:List UInt8
 pos:Nat
 deriving DecidableEq
inductive KindP where
 | lit (pos:Nat) (s:List Rg)
 | ref (pos:Nat) (name:List UInt8)
 | not (pos:Nat) (l:KindP)
 | bin (code:Nat) (pos:Nat) (l r:KindP)
inductive PatP where
 | one (k:KindP)
 | any
 | edge
 | cat (l:List PatP)
 | alt (l:List PatP)
 | many (x:PatP) (lo hi:Int)
structure RuleP where
 pos:Nat
 brk:Bool
 before:PatP
 after:PatP
structure ClassP where
 name:List UInt8
 pos:Nat
 kind:KindP
structure FileP where
 classes:List ClassP
 rules:List RuleP
 els:Bool
def letterP (c:UInt8):Bool:=decide (97≤c.toNat) && decide (c.toNat≤122)
def digitP (c:UInt8):Bool:=decide (48≤c.toNat) && decide (c.toNat≤57)
def markL:List UInt8:=[61,59,58,124,38,45,126,40,41,46,42,43,63,123,125,44,36]
def runP (f:UInt8→Bool)(s:List UInt8):Nat:=(s.takeWhile f).length
def nextT (s:List UInt8):Nat×Nat :=
 let c:=s.headD 0
 if letterP c then (1,runP (fun c=>letterP c || digitP c) s)
 else if digitP c then (2,runP digitP s)
 else if c=91 then (3,if s.contains 93 then runP (· != 93) s+1 else 0)
 else if markL.contains c then (4,1)
 else (4,0)
def tokLoop:Nat→Nat→List UInt8→List Cae.Tok→Except (Nat×Nat) (List Cae.Tok)
 | 0,i,s,acc=>.error (0,0)
 | n+1,i,[],acc=>.ok (acc++[⟨5,[],i⟩])
 | n+1,i,c::r,acc =>
  if c=32∨c=10 then tokLoop n (i+1) r acc
  else if c=35 then tokLoop n (i+runP (· != 10) (c::r)) ((c::r).drop (runP (· != 10) (c::r))) acc
  else if (nextT (c::r)).2=0 then .error (3,i)
  else if acc.length=500 then .error (4,i)
  else tokLoop n (i+(nextT (c::r)).2) ((c::r).drop (nextT (c::r)).2) (acc++[⟨(nextT (c::r)).1,(c::r).take (nextT (c::r)).2,i⟩])
def tokP (s:List UInt8):Except (Nat×Nat) (List Cae.Tok):=tokLoop (s.length+1) 0 s []
def setP (s:List UInt8):Option (List Rg) :=
 let body:=(s.drop 1).dropLast
 let l:List Rg:=if body=[] then [] else (splitB 32 body).map fun p=>(((hexV (cutP 45 p).1:Nat):Int),if (cutP 45 p).2.2 then ((hexV (cutP 45 p).2.1:Nat):Int) else ((hexV (cutP 45 p).1:Nat):Int))
 if setRight (-2) l && printP l == s then some l else none
abbrev Pa (α:Type):=List Cae.Tok→Except (Nat×Nat) (α×List Cae.Tok)
def hd (l:List Cae.Tok):Cae.Tok:=l.headD ⟨5,[],0⟩
def pb {α β:Type}(p:Pa α)(q:α→Pa β):Pa β:=fun l=>match p l with
 | .error e=>.error e
 | .ok (x,l')=>q x l'
def pr {α:Type}(x:α):Pa α:=fun l=>.ok (x,l)
def pfail {α:Type}(e:Nat):Pa α:=fun l=>.error (e,(hd l).pos)
def pif {α:Type}(c:List Cae.Tok→Bool)(p q:Pa α):Pa α:=fun l=>if c l then p l else q l
def peek:Pa Cae.Tok:=fun l=>.ok (hd l,l)
def popP:Pa Unit:=fun l=>match l with
 | []=>.error (0,0)
 | t::r=>if t.kind=5 then .error (0,0) else .ok ((),r)
def isKind (k:Nat)(l:List Cae.Tok):Bool:=(hd l).kind == k
def seeP (s:List UInt8)(l:List Cae.Tok):Bool:=(hd l).kind != 5 && (hd l).text == s
def mustP (s:List UInt8):Pa Unit:=pif (seeP s) popP (pfail 3)
def keptP (s:List UInt8):Bool:=s == [99,108,97,115,115] || s == [98,114,101,97,107] || s == [107,101,101,112] || s == [101,108,115,101]
def namedP (l:List Cae.Tok):Bool:=(hd l).kind == 1 && !keptP (hd l).text
def longP (l:List Cae.Tok):Bool:=decide (10<(hd l).text.length)
def nameP:Pa (List UInt8):=pif namedP (pif longP (pfail 4) (pb peek fun t=>pb popP fun _=>pr t.text)) (pfail 3)
def binP:Pa Nat:=pif (seeP [124]) (pb popP fun _=>pr 3) (pif (seeP [38]) (pb popP fun _=>pr 4) (pif (seeP [45]) (pb popP fun _=>pr 5) (pr 0)))
def kindLoop (one:Pa KindP)(pos:Nat):Nat→KindP→Pa KindP
 | 0,k=>pfail 0
 | n+1,k=>pb binP fun c=>if c=0 then pr k else pb one fun r=>kindLoop one pos n (.bin c pos k r)
def kindW (one:Pa KindP):Pa KindP:=pb peek fun t=>pb one fun k=>kindLoop one t.pos 1000 k
def litP:Pa KindP:=pb peek fun t=>match setP t.text with
 | none=>pfail 3
 | some s=>pb popP fun _=>pr (.lit t.pos s)
def oneP:Nat→Pa KindP
 | 0=>pfail 4
 | d+1=>pif (isKind 3) litP (pif (seeP [126]) (pb peek fun t=>pb popP fun _=>pb (oneP d) fun k=>pr (.not t.pos k))
  (pif (seeP [40]) (pb popP fun _=>pb (kindW (oneP d)) fun k=>pb (mustP [41]) fun _=>pr k)
   (pb peek fun t=>pb nameP fun n=>pr (.ref t.pos n))))
def kindP (d:Nat):Pa KindP:=kindW (oneP d)
def decV (s:List UInt8):Nat:=s.foldl (fun m b=>10*m+(b.toNat-48)) 0
def timesP:Pa Nat:=pif (isKind 2) (pb peek fun t=>if 12<decV t.text then pfail 4 else pb popP fun _=>pr (decV t.text)) (pfail 3)
def bracesP:Pa (Int×Int):=pb timesP fun lo=>pif (seeP [44])
 (pb popP fun _=>pif (isKind 2)
  (pb timesP fun hi=>if hi<lo then pfail 2 else pb (mustP [125]) fun _=>pr ((lo:Int),(hi:Int)))
  (pb (mustP [125]) fun _=>pr ((lo:Int),-1)))
 (pb (mustP [125]) fun _=>pr ((lo:Int),(lo:Int)))
def suffixP:Pa (Option (Int×Int)) :=
 pif (seeP [42]) (pb popP fun _=>pr (some (0,-1)))
 (pif (seeP [43]) (pb popP fun _=>pr (some (1,-1)))
 (pif (seeP [63]) (pb popP fun _=>pr (some (0,1)))
 (pif (seeP [123]) (pb popP fun _=>pb bracesP fun r=>pr (some r)) (pr none))))
def againLoop (d:Nat):Nat→Nat→PatP→Pa PatP
 | 0,c,x=>pfail 0
 | n+1,c,x=>pb suffixP fun r=>match r with
  | none=>pr x
  | some q=>if d≤c+1 then pfail 4 else againLoop d n (c+1) (.many x q.1 q.2)
def againW (d:Nat)(unit:Pa PatP):Pa PatP:=pb unit fun x=>againLoop d 1000 0 x
def startP (l:List Cae.Tok):Bool:=isKind 3 l || namedP l || seeP [46] l || seeP [36] l || seeP [40] l
def rowLoop (again:Pa PatP):Nat→List PatP→Pa (List PatP)
 | 0,acc=>pfail 0
 | n+1,acc=>pif startP (pb again fun x=>rowLoop again n (acc++[x])) (pr acc)
def rowOf:List PatP→PatP
 | [x]=>x
 | l=>.cat l
def altOf:List PatP→PatP
 | [x]=>x
 | l=>.alt l
def rowW (again:Pa PatP):Pa PatP:=pb (rowLoop again 1000 []) fun ps=>pr (rowOf ps)
def altLoop (row:Pa PatP):Nat→List PatP→Pa (List PatP)
 | 0,acc=>pfail 0
 | n+1,acc=>pif (seeP [124]) (pb popP fun _=>pb row fun x=>altLoop row n (acc++[x])) (pr acc)
def altW (row:Pa PatP):Pa PatP:=pb row fun x=>pb (altLoop row 1000 [x]) fun ps=>pr (altOf ps)
def patW (d:Nat)(unit:Pa PatP):Pa PatP:=if d=0 then pfail 4 else altW (rowW (againW d unit))
def unitStart (l:List Cae.Tok):Bool:=isKind 3 l || namedP l
def unitP:Nat→Pa PatP
 | 0=>pfail 4
 | d+1=>pif (seeP [46]) (pb popP fun _=>pr .any)
  (pif (seeP [36]) (pb popP fun _=>pr .edge)
  (pif (seeP [40]) (pb popP fun _=>pb (patW d (unitP d)) fun x=>pb (mustP [41]) fun _=>pr x)
  (pif unitStart (pb (oneP (d+1)) fun k=>pr (.one k)) (pfail 3))))
def patP (d:Nat):Pa PatP:=patW d (unitP d)
def classP:Pa ClassP:=pb peek fun t=>pb (mustP [99,108,97,115,115]) fun _=>pb nameP fun n=>pb (mustP [61]) fun _=>pb (kindP 9) fun k=>pb (mustP [59]) fun _=>pr ⟨n,t.pos,k⟩
def classLoop:Nat→List ClassP→Pa (List ClassP)
 | 0,acc=>pfail 0
 | n+1,acc=>pif (seeP [99,108,97,115,115]) (if acc.length=20 then pfail 4 else pb classP fun c=>classLoop n (acc++[c])) (pr acc)
def saysP:Pa Bool:=pif (seeP [98,114,101,97,107]) (pb popP fun _=>pr true) (pb (mustP [107,101,101,112]) fun _=>pr false)
def ruleP:Pa RuleP:=pb peek fun t=>pb saysP fun b=>pb (patP 9) fun x=>pb (mustP [58]) fun _=>pb (patP 9) fun y=>pb (mustP [59]) fun _=>pr ⟨t.pos,b,x,y⟩
def ruleStart (l:List Cae.Tok):Bool:=seeP [98,114,101,97,107] l || seeP [107,101,101,112] l
def ruleLoop:Nat→List RuleP→Pa (List RuleP)
 | 0,acc=>pfail 0
 | n+1,acc=>pif ruleStart (if acc.length=20 then pfail 4 else pb ruleP fun r=>ruleLoop n (acc++[r])) (pr acc)
def elseP:Pa Bool:=pif (seeP [101,108,115,101]) (pb popP fun _=>pb saysP fun b=>pb (mustP [59]) fun _=>pr b) (pr true)
def fileP:Pa FileP:=pb (classLoop 1000 []) fun cs=>pb (ruleLoop 1000 []) fun rs=>pb elseP fun b=>pr ⟨cs,rs,b⟩
def parseR (s:List UInt8):Except (Nat×Nat) FileP:=match tokP s with
 | .error e=>.error e
 | .ok l=>match fileP l with
  | .error e=>.error e
  | .ok (f,l')=>if isKind 5 l' then .ok f else .error (3,(hd l').pos)
def kindText:KindP→Bool→List UInt8
 | .lit _ s,_=>printP s
 | .ref _ n,_=>n
 | .not _ l,_=>126::kindText l true
 | .bin c _ l r,alone =>
  let m:List UInt8:=if c=3 then [32,124,32] else if c=4 then [32,38,32] else [32,45,32]
  let s:=kindText l false++m++kindText r true
  if alone then 40::(s++[41]) else s
def decP (n:Nat):List UInt8:=if n<10 then [dig n] else if n<100 then [dig (n / 10),dig (n % 10)] else []
def timesText (lo hi:Int):List UInt8 :=
 if lo=0∧hi<0 then [42] else if lo=1∧hi<0 then [43] else if lo=0∧hi=1 then [63]
 else if hi<0 then 123::(decP lo.toNat++[44,125])
 else if hi=lo then 123::(decP lo.toNat++[125])
 else 123::(decP lo.toNat++44::(decP hi.toNat++[125]))
def inPar (b:Bool)(s:List UInt8):List UInt8:=if b then 40::(s++[41]) else s
mutual
def patText:PatP→Nat→List UInt8
 | .one k,_=>kindText k true
 | .any,_=>[46]
 | .edge,_=>[36]
 | .cat l,least=>inPar (decide (1<least)) (Go.Lib.join (patTexts l 2) [32])
 | .alt l,least=>inPar (decide (0<least)) (Go.Lib.join (patTexts l 1) [32,124,32])
 | .many x lo hi,_=>patText x 2++timesText lo hi
def patTexts:List PatP→Nat→List (List UInt8)
 | [],_=>[]
 | x::l,least=>patText x least::patTexts l least
end
def classText (c:ClassP):List UInt8:=[99,108,97,115,115,32]++c.name++[32,61,32]++kindText c.kind false++[59,10]
def ruleText (r:RuleP):List UInt8 :=
 (if r.brk then [98,114,101,97,107,32] else [107,101,101,112,32])
  ++ (if patText r.before 0=[] then [] else patText r.before 0++[32])++[58]++(if patText r.after 0=[] then [] else 32::patText r.after 0)++[59,10]
def elseText (b:Bool):List UInt8:=if b then [] else [101,108,115,101,32,107,101,101,112,59,10]
def fileText (f:FileP):List UInt8:=(f.classes.flatMap classText)++(f.rules.flatMap ruleText)++elseText f.els
theorem setP_ok {s:List UInt8}{l:List Rg}(h:setP s=some l):PrintOf s l:=by
 have key:∀l':List Rg,(if setRight (-2) l' && printP l' == s then some l' else none)=some l→PrintOf s l:=fun l' h=>by
  by_cases hc:(setRight (-2) l' && printP l' == s)=true
  ·rw[if_pos hc]at h;obtain rfl:=Option.some.inj h;simp only[Bool.and_eq_true,beq_iff_eq]at hc;exact⟨hc.1,hc.2⟩
  ·rw[if_neg hc]at h;cases h
 exact key _ h
theorem map_same {α:Type}{f:α→α}{l:List α}(h:∀r∈l,f r=r):l.map f=l:=by
 induction l with
 | nil=>rfl
 | cons x l ih=>rw[List.map_cons,h x (by simp),ih (fun r hr=>h r (by simp[hr]))]
theorem setP_of {s:List UInt8}{l:List Rg}(h:PrintOf s l):setP s=some l:=by
 obtain⟨hr,rfl⟩:=h;have hb:((printP l).drop 1).dropLast=bodyP l:=by
  unfold printP bodyP;simp
 have hmap:(if ((printP l).drop 1).dropLast=[] then ([]:List Rg) else (splitB 32 ((printP l).drop 1).dropLast).map fun p=>(((hexV (cutP 45 p).1:Nat):Int),if (cutP 45 p).2.2 then ((hexV (cutP 45 p).2.1:Nat):Int) else ((hexV (cutP 45 p).1:Nat):Int)))=l:=by
  rw[hb];by_cases h0:bodyP l=[]
  ·rw[if_pos h0,bodyP_nil h0]
  ·rw[if_neg h0,split_body hr h0,List.map_map];refine map_same fun r hrm=>?_;obtain⟨h1,h2,h3⟩:=mem_right (by omega) hr r hrm;simp only[Function.comp];by_cases hlt:r.1<r.2
   ·rw[cut_rg h1 (by omega) (by omega) hlt];simp only[if_true];rw[hexP_val (by omega),hexP_val (by omega)];ext<;>simp<;>omega
   ·rw[cut_rg1 h1 (by omega) hlt];simp only[Bool.false_eq_true,if_false];rw[hexP_val (by omega)];ext<;>simp<;>omega
 unfold setP;simp only;rw[hmap,hr];simp
theorem setP_no {s:List UInt8}(h:∀l,¬PrintOf s l):setP s=none:=by
 cases hs:setP s with
 | none=>rfl
 | some l=>exact absurd (setP_ok hs) (h l)
theorem right_few:∀{s:List Rg} {a:Int},setRight a s=true→2*(s.length:Int)≤max 0 (1114113-a)
 | [],a,_=>by simp;omega
 | r::s,a,h=>by
  rw[setRight_con]at h
  have:=right_few h.2;have h1:=h.1;simp only[List.length_cons];omega
theorem right_len {s:List Rg}(h:setRight (-2) s=true):s.length≤557057:=by
 have:=right_few h;omega
end Cae
end
