/- Lemmas. -/
import Derived.Test.YtledlfbbebodgaaGreatDoorM5
set_option maxRecDepth 100000
set_option linter.unusedSimpArgs false
set_option linter.unusedVariables false
set_option maxHeartbeats 8000000
section
namespace Go.Proofs.YtledlfbbebodgaaGreatDoor
open Go.Vc Go.Proofs Go.RowKit Cae
attribute [local irreducible] wpL callK valK unitK runK Fun Sl Vc.Own vc vcOps opK pureK
def ParseR (B:Nat)(s:List UInt8)(r:Value)(w:World):Prop :=
 (∃v l,r=.tuple #[v,.nilIface]∧Go.Vc.Own B 46 2 encR w v l∧PrintOf s l)∨((∀l,¬PrintOf s l)∧r=.tuple #[.slice none 0 0,.iface 83 (.int .i64 3)])
def ParI (sz:Nat)(w:World)(s body:List UInt8)(pre:List (List UInt8))(W:World):Prop :=
 ∃v out,Blk W sz 41 [.slice none 0 0]∧Blk W (sz+1) 31 [.nilIface]∧Blk W (sz+2) 9 [str body]∧Blk W (sz+3) 41 [v]∧Go.Vc.Own (sz+9) 46 2 encR W v out∧out.length=pre.length∧(body=[]→out=[])∧(∀l,PrintOf s l→out=l.take pre.length)∧Below sz w W
def ParX (sz:Nat)(w:World)(s body:List UInt8)(c:Code)(pre:List (List UInt8))(W:World):Prop :=
 (c=.ret∧Blk W sz 41 [.slice none 0 0]∧Blk W (sz+1) 31 [.iface 83 (.int .i64 3)]∧(∀l,¬PrintOf s l)∧Below sz w W)∨(c=.exit 0∧body=[]∧ParI sz w s body [] W)
theorem ParI.kept {sz:Nat}{w W W':World}{s body:List UInt8}{pre:List (List UInt8)}(hw:sz=w.heap.size)(h:ParI sz w s body pre W)(hk:Kept (fun k=>k=sz+4∨k=sz+7∨k=sz+7+1) W W'):ParI sz w s body pre W':=by
 obtain⟨v,out,h1,h2,h3,h4,h5,h6,h7,h8,h9⟩:=h;exact⟨v,out,h1.kept hk (by omega),h2.kept hk (by omega),h3.kept hk (by omega),h4.kept hk (by omega),h5.keptX hk (fun g hg hh=>by have:=(h5.block g hg).1;omega),h6,h7,h8,h9.trans (hk.below (by have:=h9.size;omega) (fun i h=>by omega))⟩
theorem ParX.kept {sz:Nat}{w W W':World}{s body:List UInt8}{c:Code}{pre:List (List UInt8)}(hw:sz=w.heap.size)(h:ParX sz w s body c pre W)(hk:Kept (fun k=>k=sz+4∨k=sz+7∨k=sz+7+1) W W'):ParX sz w s body c pre W':=by
 rcases h with ⟨h0,h1,h2,h3,h9⟩|⟨h0,h1,h2⟩
 ·exact .inl ⟨h0,h1.kept hk (by omega),h2.kept hk (by omega),h3,h9.trans (hk.below (by have:=h9.size;omega) (fun i h=>by omega))⟩
 ·exact .inr ⟨h0,h1,h2.kept hw hk⟩
theorem parse_end {w W:World}{s:List UInt8}{r1 r2:Value}{D:Nat}(hD:D=w.heap.size+7)(P1:Blk W w.heap.size 41 [r1])(P2:Blk W (w.heap.size+1) 31 [r2])(hDW:W.heap[D]?=some (.deferred (some [])))(hb:Below w.heap.size w W)
  (hR:ParseR w.heap.size s (.tuple #[r1,r2]) (W.putObj D (.deferred none))) {t:Fr} (h2:t.getD 2 undef=.pointer (some ⟨w.heap.size,0,none⟩)) (h3:t.getD 3 undef=.pointer (some ⟨w.heap.size+1,0,none⟩)) :
  bodyPostM Fence.wide 0 Tryz.prog Tryz.f160 (fun e w'=>∃v,e=.returned v∧ParseR w.heap.size s v w'∧Below w.heap.size w w') .ret ⟨t.toArray,[{ target:=.collected D,args:=#[] }]⟩ W:=by
 have hk:=keptPut (X:=fun k=>k=D) W D (.deferred none) rfl;have Q1:=P1.kept hk (by omega);have Q2:=P2.kept hk (by omega);refine leaveD (rs:=[.cell 2 41,.cell 3 31]) (by rfl) hDW ?_;have d1:(W.putObj D (.deferred none)).cell? ⟨w.heap.size,0,none⟩=some r1:=Q1.cell rfl;have d2:(W.putObj D (.deferred none)).cell? ⟨w.heap.size+1,0,none⟩=some r2:=Q2.cell rfl
 have hgW:∃V,W.putObj D (.deferred none)=V:=⟨_,rfl⟩;obtain⟨V,hV⟩:=hgW;rw[hV]at d1 d2 hR hk ⊢;push_cast -dsimp[h2,h3,d1,d2];exact⟨hR,hb.trans (hk.below hb.size (fun i h=>by omega))⟩
theorem parse_c (s:List UInt8) (hs:s.length≤1000000) (w:World) (hd:Db w) (he:SErrs w):Fun Tryz.prog 160 [str s] w fun r w'=>ParseR w.heap.size s r w'∧Below w.heap.size w w':=by
 refine fun_of_in Tryz.func160 rfl (by kernel_rfl) ?_
 simp -dsimp (maxSteps:=4000000) only[push_cast,fr0,Tryz.ntmps160,List.length_cons,List.length_nil,Nat.reduceAdd,Nat.reduceSub,Nat.reduceBEq,List.replicate_succ,List.replicate_zero]
 refine seqIn (ro:=none) (by rfl) ?_
 push_cast -dsimp
 refine allocK (z:=[.slice none 0 0]) (by kernel_rfl) ?_
 intro w1 hw1
 have sz1:=hw1.size
 have B1:=hw1.blk
 have b1:=hw1.below
 push_cast -dsimp
 refine allocK (z:=[.nilIface]) (by kernel_rfl) ?_
 intro w2 hw2
 have sz2:=hw2.size
 have B12:=B1.below hw2.below (by omega)
 have B22:=hw2.blk
 have b2:=b1.trans (hw2.below.mono (by omega))
 rw[sz1]at B22
 push_cast -dsimp[sz1]
 refine seqIn (ro:=none) (by rfl) ?_
 push_cast -dsimp
 refine callK_of (cutPre_c s [91] w2) ?_
 rintro _ w2' ⟨rfl,rfl⟩
 push_cast -dsimp
 refine allocK (z:=[str []]) (by kernel_rfl) ?_
 intro w3 hw3
 have sz3:=hw3.size
 have B13:=B12.below hw3.below (by omega)
 have B23:=B22.below hw3.below (by omega)
 have B33:=hw3.blk
 have b3:=b2.trans (hw3.below.mono (by omega))
 have es2:w2'.heap.size=w.heap.size+2:=by omega
 rw[es2]at B33
 push_cast -dsimp[es2]
 refine storeK_of B33 (by simp) rfl ?_
 intro w4 hw4
 have sz4:w4.heap.size=w3.heap.size:=hw4.size
 have B14:=B13.kept hw4.kept (by omega)
 have B24:=B23.kept hw4.kept (by omega)
 have B34:Blk w4 (w.heap.size+2) 9 [str (Lib.trimPrefix s [91])]:=hw4.blk
 have b4:=b3.trans (hw4.kept.below (B:=w.heap.size) (by omega) (fun i h=>by omega))
 have c34:w4.cell? ⟨w.heap.size+2,0,none⟩=some (str (Lib.trimPrefix s [91])):=B34.cell rfl
 have htl:(Lib.trimPrefix s [91]).length≤s.length:=by
  unfold Lib.trimPrefix
  split
  ·rw[List.length_drop];omega
  ·exact Nat.le_refl _
 push_cast -dsimp
 refine seqIn (ro:=none) (by rfl) ?_
 push_cast -dsimp[c34]
 refine callK_of (cutSuf_c (Lib.trimPrefix s [91]) [93] (by omega) w4) ?_
 rintro _ w4' ⟨rfl,rfl⟩
 push_cast -dsimp
 refine storeK_of B34 (by simp) rfl ?_
 intro w5 hw5
 have sz5:w5.heap.size=w4'.heap.size:=hw5.size
 have B15:=B14.kept hw5.kept (by omega)
 have B25:=B24.kept hw5.kept (by omega)
 have hgb:∃body,Lib.trimSuffix (Lib.trimPrefix s [91]) [93]=body:=⟨_,rfl⟩
 obtain⟨body,hbody⟩:=hgb
 have hbl:body.length≤s.length:=by
  rw[←hbody]
  unfold Lib.trimSuffix
  split
  ·rw[List.length_take];omega
  ·exact htl
 rw[hbody]at hw5
 rw[hbody]
 have B35:Blk w5 (w.heap.size+2) 9 [str body]:=hw5.blk
 have b5:=b4.trans (hw5.kept.below (B:=w.heap.size) (by omega) (fun i h=>by omega))
 have c15:w5.cell? ⟨w.heap.size,0,none⟩=some (.slice none 0 0):=B15.cell rfl
 have hgp:∃pf,Lib.hasPrefix s [91]=pf:=⟨_,rfl⟩
 obtain⟨pf,hpf⟩:=hgp
 have hgq:∃sf,Lib.hasSuffix (Lib.trimPrefix s [91]) [93]=sf:=⟨_,rfl⟩
 obtain⟨sf,hsf⟩:=hgq
 rw[hpf,hsf]
 push_cast -dsimp
 refine seqIn (ro:=none) (by rfl) ?_
 cases hps:(pf && sf) with
 | false =>
  have hno:∀l,¬PrintOf s l:=fun l h=>by
   have:=print_pre h
   rw[hpf,hsf]at this
   rw[this.1,this.2.1]at hps
   cases hps
  cases pf<;>cases sf<;>first|(cases hps;done)|skip
  all_goals
   push_cast -dsimp
   refine storeK_of B15 (by simp) rfl ?_
   intro w6 hw6
   have sz6:w6.heap.size=w5.heap.size:=hw6.size
   have B26:=B25.kept hw6.kept (by omega)
   have B16:Blk w6 w.heap.size 41 [.slice none 0 0]:=hw6.blk
   push_cast -dsimp
   refine storeK_of B26 (by simp) rfl ?_
   intro w7 hw7
   have B17:=B16.kept hw7.kept (by omega)
   have B27:Blk w7 (w.heap.size+1) 31 [.iface 83 (.int .i64 3)]:=hw7.blk
   have b7:=(b5.trans (hw6.kept.below (B:=w.heap.size) (by omega) (fun i h=>by omega))).trans (hw7.kept.below (B:=w.heap.size) (by omega) (fun i h=>by omega))
   have d1:w7.cell? ⟨w.heap.size,0,none⟩=some (.slice none 0 0):=B17.cell rfl
   have d2:w7.cell? ⟨w.heap.size+1,0,none⟩=some (.iface 83 (.int .i64 3)):=B27.cell rfl
   push_cast -dsimp
   refine leave0 (rs:=[.cell 2 41,.cell 3 31]) (by rfl) ?_
   push_cast -dsimp[d1,d2]
   exact⟨.inr ⟨hno,rfl⟩,b7⟩
 | true =>
  cases pf<;>cases sf<;>first|(cases hps;done)|skip
  push_cast -dsimp
  refine seqIn (ro:=none) (by rfl) ?_
  push_cast -dsimp
  refine allocK (z:=[.slice none 0 0]) (by kernel_rfl) ?_
  intro w6 hw6
  have sz6:=hw6.size
  have B16:=B15.below hw6.below (by omega)
  have B26:=B25.below hw6.below (by omega)
  have B36:=B35.below hw6.below (by omega)
  have B46:=hw6.blk
  have b6:=b5.trans (hw6.below.mono (by omega))
  have es5:w5.heap.size=w.heap.size+3:=by omega
  rw[es5]at B46
  have c36:w6.cell? ⟨w.heap.size+2,0,none⟩=some (str body):=B36.cell rfl
  push_cast -dsimp[es5]
  refine wpIn_seq (seqIn (ro:=none) (by rfl) ?_)
  push_cast -dsimp[c36]
  refine callK_of (splitSeqs_c body 32 w6) ?_
  rintro _ w7 ⟨rfl,hS,hP,hV,sz7,hb7⟩
  have es6:w6.heap.size=w.heap.size+4:=by omega
  rw[es6]at hS hP hV
  have B17:=B16.below hb7 (by omega)
  have B27:=B26.below hb7 (by omega)
  have B37:=B36.below hb7 (by omega)
  have B47:=B46.below hb7 (by omega)
  have b7:=b6.trans (hb7.mono (by omega))
  push_cast -dsimp[es6]
  have es7:w7.heap.size=w.heap.size+7:=by omega
  have hS7:Blk w7 (w.heap.size+4) 9 [str body]:=hS
  refine wpIn_block (rangeV (α:=List UInt8) (gf:=210) (lb:=[.pointer (some ⟨w.heap.size+4+1,0,none⟩),.pointer (some ⟨w.heap.size+4,0,none⟩),.pointer (some ⟨w.heap.size+4+2,0,none⟩)]) (by rfl) (fun args w=>callFunc_enter Tryz.func210 (by kernel_rfl) (by kernel_rfl)) (en:=fun x=>str x) (B:=fun k=>k=w.heap.size+4) (Z:=fun k=>k=w.heap.size+4∨k=w.heap.size+4+1∨k=w.heap.size+4+2)
   (fun k hk=>by omega) (fun k hk=>by omega) (split_it body 32 (by omega) _ _ _ _ (by omega) (by omega) w7 hS hP hV) (ParI w.heap.size w s body) (ParX w.heap.size w s body) (fun p W W' h hk=>h.kept rfl (by rw[es7]at hk;exact hk)) (fun c p W W' h hk=>h.kept rfl (by rw[es7]at hk;exact hk)) ?_ 8 (by rfl) (by rfl) ?_ ?_ ?_ ?_)
  ·exact⟨_,[],B17,B27,B37,B47,Go.Vc.Own.nil (enc:=encR) _ _ (fun _=>rfl) _,rfl,fun _=>rfl,fun l _=>rfl,b7⟩
  ·intro x W
   push_cast -dsimp
  ·intro pre x W hI hA hWs
   obtain⟨v,out,P1,P2,P3,P4,ho,hol,hob,hol2,hbB⟩:=hI
   have hbs:=hbB.size
   have cb:W.cell? ⟨w.heap.size+2,0,none⟩=some (str body):=P3.cell rfl
   have hxm:x∈splitB 32 body:=hA.subset (by simp)
   have hxl:=splitB_mem 32 body x hxm
   have hpreL:pre.length≤body.length:=by
    have h1:=hA.length_le
    have h2:=splitB_len 32 body
    rw[List.length_append,List.length_singleton]at h1
    omega
   have hpl:∀l,PrintOf s l→setRight (-2) l=true∧body=bodyP l:=fun l hl=>⟨hl.1,by rw[←hbody];exact(print_pre hl).2.2⟩
   push_cast -dsimp[cb]
   refine⟨fun hbe=>?_,fun hbne=>?_⟩
   ·have hoe:=hob hbe
    subst hoe
    exact⟨Nat.le_refl _,.inr ⟨rfl,hbe,v,[],P1,P2,P3,P4,ho,rfl,fun _=>rfl,fun l _=>rfl,hbB⟩⟩
   ·refine callK_of (cut_c x 45 (by omega) W) ?_
    rintro _ w8 ⟨rfl,hb8⟩
    have hgc:∃a b two,cutP 45 x=(a,b,two):=⟨_,_,_,rfl⟩
    obtain⟨a,b,two,hcut⟩:=hgc
    have hcl:=cutP_len 45 x
    rw[hcut]at hcl
    rw[hcut]
    obtain⟨hla,hlb⟩:=hcl
    dsimp only at hla hlb
    cases two with
    | true =>
     have hcp:∀l,PrintOf s l→∃r,l[pre.length]?=some r∧0≤r.1∧r.1≤r.2∧r.2≤1114111∧a=hexP r.1.toNat∧b=hexP r.2.toNat:=fun l hl=>by
      obtain⟨hr,hbb⟩:=hpl l hl
      obtain⟨r,hr1,hr0,hr2,hr3,hr4⟩:=round_plain hr hbb hbne hA
      rw[hr0]at hcut
      by_cases hlt:r.1<r.2
      ·rw[cut_rg (by omega) (by omega) (by omega) hlt]at hcut
       exact⟨r,hr1,hr2,hr3,hr4,(Prod.mk.inj hcut).1.symm,(Prod.mk.inj (Prod.mk.inj hcut).2).1.symm⟩
      ·rw[cut_rg1 (by omega) (by omega) hlt]at hcut
       cases (Prod.mk.inj (Prod.mk.inj hcut).2).2
     push_cast -dsimp
     refine callK_of (parseInt_c a (by omega) w8 (he.below (hbB.trans (hb8.mono hbs)))) ?_
     rintro _ w9 ⟨⟨v1,e1,rfl,he1,hx1⟩,hb9⟩
     push_cast -dsimp
     refine callK_of (parseInt_c b (by omega) w9 (he.below (hbB.trans ((hb8.tr hb9).mono hbs)))) ?_
     rintro _ w10 ⟨⟨v2,e2,rfl,he2,hx2⟩,hb10⟩
     have hb10':=(hb8.tr hb9).tr hb10
     have Q1:=P1.below hb10' (by omega)
     have Q2:=P2.below hb10' (by omega)
     have Q3:=P3.below hb10' (by omega)
     have Q4:=P4.below hb10' (by omega)
     have hoq:=ho.below hb10'
     have hbq:=hbB.trans (hb10'.mono hbs)
     have hWq:=hb10'.size
     have hkq:Kept (fun _=>False) W w10:=Kept.of_below hb10' (fun i h1 h2=>by omega)
     have hval:∀l,PrintOf s l→∃r,l[pre.length]?=some r∧v1=r.1∧v2=r.2∧e1=.nilIface∧e2=.nilIface:=fun l hl=>by
      obtain⟨r,hr1,hr2,hr3,hr4,ha1,ha2⟩:=hcp l hl
      have h1:=hx1 _ (by omega) ha1
      have h2:=hx2 _ (by omega) ha2
      exact⟨r,hr1,by rw[h1.1];omega,by rw[h2.1];omega,h1.2,h2.2⟩
     by_cases hee:e1=.nilIface∧e2=.nilIface
     ·obtain⟨rfl,rfl⟩:=hee
      have cv:w10.cell? ⟨w.heap.size+3,0,none⟩=some v:=Q4.cell rfl
      have hsh:=hoq.slice
      obtain⟨oa,oc,rfl⟩:=hsh
      push_cast -dsimp[cv]
      refine rowK elI_41 rfl rfl (by omega) ?_
      intro w11 hw11
      have sz11:=hw11.size
      have ho11:=hoq.new hw11
      have R4:=Q4.below hw11.below (by omega)
      push_cast -dsimp
      refine appendK2 (base:=w.heap.size+9) [(v1,v2)] (enc:=encR) elI_41 ho11 (by rfl) (fun j u hu=>by simpa[encR] using hw11.cell hu) encR_one (by simp only[List.length_cons,List.length_nil];omega) (by omega) ?_
      intro v12 w12 ho12 hg12 hn12
      have kg:Kept (fun j=>(Value.slice oa out.length oc).ownBlock=some j) w11 w12:=Kept.grown hg12 (fun _ h=>h)
      have hown:=ho11.block
      have R5:Blk w12 (w.heap.size+3) 41 [.slice oa out.length oc]:=R4.kept kg (fun h=>by have:=(hown _ h).1;omega)
      push_cast -dsimp
      have hsh:=ho12.slice
      obtain⟨va,vc,rfl⟩:=hsh
      refine storeK_of R5 (by simp) rfl ?_
      intro w13 hw13
      have k13:Kept (fun j=>j=w.heap.size+3∨(Value.slice oa out.length oc).ownBlock=some j) w10 w13:=((Kept.new (X:=fun j=>j=w.heap.size+3∨(Value.slice oa out.length oc).ownBlock=some j) hw11).trans kg (fun _ _ h=>.inr h)).trans hw13.kept (fun _ _ h=>.inl h)
      have hlow:∀{k:Nat},k=w.heap.size+3∨(Value.slice oa out.length oc).ownBlock=some k→w.heap.size+9≤k∨k=w.heap.size+3:=fun h=>by
       rcases h with h|h
       ·exact .inr h
       ·exact .inl (hown _ h).1
      have S1:=Q1.kept k13 (fun h=>by have:=hlow h;omega)
      have S2:=Q2.kept k13 (fun h=>by have:=hlow h;omega)
      have S3:=Q3.kept k13 (fun h=>by have:=hlow h;omega)
      have S4:Blk w13 (w.heap.size+3) 41 [.slice va (out++[(v1,v2)]).length vc]:=hw13.blk
      have ho13:=ho12.keptX hw13.kept (fun g hg h=>by have:=(ho12.block g hg).1;omega)
      have hz:∀k,(k=w.heap.size+4∨k=w.heap.size+4+1∨k=w.heap.size+4+2)∨k=w7.heap.size∨k=w7.heap.size+1→w13.heap[k]?=W.heap[k]?:=fun k hk =>
       (k13.block k (by omega) (fun h=>by have:=hlow h;omega)).trans (hkq.block k (by omega) (fun h=>h))
      have hend:ParI w.heap.size w s body (pre++[x]) w13:=⟨_,out++[(v1,v2)],S1,S2,S3,S4,ho13,by rw[List.length_append,List.length_append,hol];rfl,fun h=>absurd h hbne,fun l hl=>by
        obtain⟨r,hr1,rfl,rfl,_,_⟩:=hval l hl
        have ht:l.take (pre++[x]).length=l.take pre.length++[r]:=by
         rw[List.length_append,List.length_singleton,List.take_add_one,hr1];rfl
        rw[ht,←hol2 l hl],hbq.trans (k13.below (B:=w.heap.size) (by omega) (fun i h=>by have:=hlow h;omega))⟩
      have hsz13:W.heap.size≤w13.heap.size:=by have:=k13.size;omega
      push_cast -dsimp
      exact⟨hsz13,hz,hend⟩
     ·have herr:∀l,¬PrintOf s l:=fun l hl=>by
       obtain⟨r,_,_,_,h1,h2⟩:=hval l hl
       exact hee ⟨h1,h2⟩
      have fin:∀(w13:World),Blk w13 w.heap.size 41 [.slice none 0 0]→Blk w13 (w.heap.size+1) 31 [.iface 83 (.int .i64 3)]→Kept (fun k=>k=w.heap.size∨k=w.heap.size+1) w10 w13→W.heap.size≤w13.heap.size∧(∀k,(k=w.heap.size+4∨k=w.heap.size+4+1∨k=w.heap.size+4+2)∨k=w7.heap.size∨k=w7.heap.size+1→w13.heap[k]?=W.heap[k]?)∧ParX w.heap.size w s body .ret (pre++[x]) w13:=fun w13 h1 h2 hk =>
       ⟨by have:=hk.size;omega,fun k h=>(hk.block k (by omega) (by omega)).trans (hkq.block k (by omega) (fun h=>h)),.inl ⟨rfl,h1,h2,herr,hbq.trans (hk.below (by omega) (fun i h=>by omega))⟩⟩
      rcases he1 with rfl|⟨t1,x1,rfl⟩
      ·rcases he2 with rfl|⟨t2,x2,rfl⟩
       ·exact absurd ⟨rfl,rfl⟩ hee
       ·push_cast -dsimp
        refine storeK_of Q1 (by simp) rfl ?_
        intro w11 hw11
        have T2:=Q2.kept hw11.kept (by omega)
        have T1:Blk w11 w.heap.size 41 [.slice none 0 0]:=hw11.blk
        push_cast -dsimp
        refine storeK_of T2 (by simp) rfl ?_
        intro w12 hw12
        have U1:=T1.kept hw12.kept (by omega)
        have hfin:=fin w12 U1 hw12.blk ((hw11.kept.weaken (fun i _ h=>.inl h)).trans hw12.kept (fun i _ h=>.inr h))
        push_cast -dsimp
        exact hfin
      ·push_cast -dsimp
       refine storeK_of Q1 (by simp) rfl ?_
       intro w11 hw11
       have T2:=Q2.kept hw11.kept (by omega)
       have T1:Blk w11 w.heap.size 41 [.slice none 0 0]:=hw11.blk
       push_cast -dsimp
       refine storeK_of T2 (by simp) rfl ?_
       intro w12 hw12
       have U1:=T1.kept hw12.kept (by omega)
       have hfin:=fin w12 U1 hw12.blk ((hw11.kept.weaken (fun i _ h=>.inl h)).trans hw12.kept (fun i _ h=>.inr h))
       push_cast -dsimp
       exact hfin
    | false =>
     have hcp:∀l,PrintOf s l→∃r,l[pre.length]?=some r∧0≤r.1∧r.1≤r.2∧r.2≤1114111∧a=hexP r.1.toNat∧a=hexP r.2.toNat:=fun l hl=>by
      obtain⟨hr,hbb⟩:=hpl l hl
      obtain⟨r,hr1,hr0,hr2,hr3,hr4⟩:=round_plain hr hbb hbne hA
      rw[hr0]at hcut
      by_cases hlt:r.1<r.2
      ·rw[cut_rg (by omega) (by omega) (by omega) hlt]at hcut
       cases (Prod.mk.inj (Prod.mk.inj hcut).2).2
      ·rw[cut_rg1 (by omega) (by omega) hlt]at hcut
       have e2:r.2=r.1:=by omega
       exact⟨r,hr1,hr2,hr3,hr4,(Prod.mk.inj hcut).1.symm,by rw[e2];exact(Prod.mk.inj hcut).1.symm⟩
     push_cast -dsimp
     refine callK_of (parseInt_c a (by omega) w8 (he.below (hbB.trans (hb8.mono hbs)))) ?_
     rintro _ w9 ⟨⟨v1,e1,rfl,he1,hx1⟩,hb9⟩
     push_cast -dsimp
     refine callK_of (parseInt_c a (by omega) w9 (he.below (hbB.trans ((hb8.tr hb9).mono hbs)))) ?_
     rintro _ w10 ⟨⟨v2,e2,rfl,he2,hx2⟩,hb10⟩
     have hb10':=(hb8.tr hb9).tr hb10
     have Q1:=P1.below hb10' (by omega)
     have Q2:=P2.below hb10' (by omega)
     have Q3:=P3.below hb10' (by omega)
     have Q4:=P4.below hb10' (by omega)
     have hoq:=ho.below hb10'
     have hbq:=hbB.trans (hb10'.mono hbs)
     have hWq:=hb10'.size
     have hkq:Kept (fun _=>False) W w10:=Kept.of_below hb10' (fun i h1 h2=>by omega)
     have hval:∀l,PrintOf s l→∃r,l[pre.length]?=some r∧v1=r.1∧v2=r.2∧e1=.nilIface∧e2=.nilIface:=fun l hl=>by
      obtain⟨r,hr1,hr2,hr3,hr4,ha1,ha2⟩:=hcp l hl
      have h1:=hx1 _ (by omega) ha1
      have h2:=hx2 _ (by omega) ha2
      exact⟨r,hr1,by rw[h1.1];omega,by rw[h2.1];omega,h1.2,h2.2⟩
     by_cases hee:e1=.nilIface∧e2=.nilIface
     ·obtain⟨rfl,rfl⟩:=hee
      have cv:w10.cell? ⟨w.heap.size+3,0,none⟩=some v:=Q4.cell rfl
      have hsh:=hoq.slice
      obtain⟨oa,oc,rfl⟩:=hsh
      push_cast -dsimp[cv]
      refine rowK elI_41 rfl rfl (by omega) ?_
      intro w11 hw11
      have sz11:=hw11.size
      have ho11:=hoq.new hw11
      have R4:=Q4.below hw11.below (by omega)
      push_cast -dsimp
      refine appendK2 (base:=w.heap.size+9) [(v1,v2)] (enc:=encR) elI_41 ho11 (by rfl) (fun j u hu=>by simpa[encR] using hw11.cell hu) encR_one (by simp only[List.length_cons,List.length_nil];omega) (by omega) ?_
      intro v12 w12 ho12 hg12 hn12
      have kg:Kept (fun j=>(Value.slice oa out.length oc).ownBlock=some j) w11 w12:=Kept.grown hg12 (fun _ h=>h)
      have hown:=ho11.block
      have R5:Blk w12 (w.heap.size+3) 41 [.slice oa out.length oc]:=R4.kept kg (fun h=>by have:=(hown _ h).1;omega)
      push_cast -dsimp
      have hsh:=ho12.slice
      obtain⟨va,vc,rfl⟩:=hsh
      refine storeK_of R5 (by simp) rfl ?_
      intro w13 hw13
      have k13:Kept (fun j=>j=w.heap.size+3∨(Value.slice oa out.length oc).ownBlock=some j) w10 w13:=((Kept.new (X:=fun j=>j=w.heap.size+3∨(Value.slice oa out.length oc).ownBlock=some j) hw11).trans kg (fun _ _ h=>.inr h)).trans hw13.kept (fun _ _ h=>.inl h)
      have hlow:∀{k:Nat},k=w.heap.size+3∨(Value.slice oa out.length oc).ownBlock=some k→w.heap.size+9≤k∨k=w.heap.size+3:=fun h=>by
       rcases h with h|h
       ·exact .inr h
       ·exact .inl (hown _ h).1
      have S1:=Q1.kept k13 (fun h=>by have:=hlow h;omega)
      have S2:=Q2.kept k13 (fun h=>by have:=hlow h;omega)
      have S3:=Q3.kept k13 (fun h=>by have:=hlow h;omega)
      have S4:Blk w13 (w.heap.size+3) 41 [.slice va (out++[(v1,v2)]).length vc]:=hw13.blk
      have ho13:=ho12.keptX hw13.kept (fun g hg h=>by have:=(ho12.block g hg).1;omega)
      have hz:∀k,(k=w.heap.size+4∨k=w.heap.size+4+1∨k=w.heap.size+4+2)∨k=w7.heap.size∨k=w7.heap.size+1→w13.heap[k]?=W.heap[k]?:=fun k hk =>
       (k13.block k (by omega) (fun h=>by have:=hlow h;omega)).trans (hkq.block k (by omega) (fun h=>h))
      have hend:ParI w.heap.size w s body (pre++[x]) w13:=⟨_,out++[(v1,v2)],S1,S2,S3,S4,ho13,by rw[List.length_append,List.length_append,hol];rfl,fun h=>absurd h hbne,fun l hl=>by
        obtain⟨r,hr1,rfl,rfl,_,_⟩:=hval l hl
        have ht:l.take (pre++[x]).length=l.take pre.length++[r]:=by
         rw[List.length_append,List.length_singleton,List.take_add_one,hr1];rfl
        rw[ht,←hol2 l hl],hbq.trans (k13.below (B:=w.heap.size) (by omega) (fun i h=>by have:=hlow h;omega))⟩
      have hsz13:W.heap.size≤w13.heap.size:=by have:=k13.size;omega
      push_cast -dsimp
      exact⟨hsz13,hz,hend⟩
     ·have herr:∀l,¬PrintOf s l:=fun l hl=>by
       obtain⟨r,_,_,_,h1,h2⟩:=hval l hl
       exact hee ⟨h1,h2⟩
      have fin:∀(w13:World),Blk w13 w.heap.size 41 [.slice none 0 0]→Blk w13 (w.heap.size+1) 31 [.iface 83 (.int .i64 3)]→Kept (fun k=>k=w.heap.size∨k=w.heap.size+1) w10 w13→W.heap.size≤w13.heap.size∧(∀k,(k=w.heap.size+4∨k=w.heap.size+4+1∨k=w.heap.size+4+2)∨k=w7.heap.size∨k=w7.heap.size+1→w13.heap[k]?=W.heap[k]?)∧ParX w.heap.size w s body .ret (pre++[x]) w13:=fun w13 h1 h2 hk =>
       ⟨by have:=hk.size;omega,fun k h=>(hk.block k (by omega) (by omega)).trans (hkq.block k (by omega) (fun h=>h)),.inl ⟨rfl,h1,h2,herr,hbq.trans (hk.below (by omega) (fun i h=>by omega))⟩⟩
      rcases he1 with rfl|⟨t1,x1,rfl⟩
      ·rcases he2 with rfl|⟨t2,x2,rfl⟩
       ·exact absurd ⟨rfl,rfl⟩ hee
       ·push_cast -dsimp
        refine storeK_of Q1 (by simp) rfl ?_
        intro w11 hw11
        have T2:=Q2.kept hw11.kept (by omega)
        have T1:Blk w11 w.heap.size 41 [.slice none 0 0]:=hw11.blk
        push_cast -dsimp
        refine storeK_of T2 (by simp) rfl ?_
        intro w12 hw12
        have U1:=T1.kept hw12.kept (by omega)
        have hfin:=fin w12 U1 hw12.blk ((hw11.kept.weaken (fun i _ h=>.inl h)).trans hw12.kept (fun i _ h=>.inr h))
        push_cast -dsimp
        exact hfin
      ·push_cast -dsimp
       refine storeK_of Q1 (by simp) rfl ?_
       intro w11 hw11
       have T2:=Q2.kept hw11.kept (by omega)
       have T1:Blk w11 w.heap.size 41 [.slice none 0 0]:=hw11.blk
       push_cast -dsimp
       refine storeK_of T2 (by simp) rfl ?_
       intro w12 hw12
       have U1:=T1.kept hw12.kept (by omega)
       have hfin:=fin w12 U1 hw12.blk ((hw11.kept.weaken (fun i _ h=>.inl h)).trans hw12.kept (fun i _ h=>.inr h))
       push_cast -dsimp
       exact hfin
  ·intro xs W hS hI hD
   obtain⟨v,out,P1,P2,P3,P4,ho,hol,hob,hol2,hbB⟩:=hI
   have hxl:xs.length≤body.length+1:=by rw[hS];exact splitB_len 32 body
   have hout:∀l,PrintOf s l→out=l:=fun l hl=>by
    have hbb:body=bodyP l:=by rw[←hbody];exact(print_pre hl).2.2
    by_cases hb0:body=[]
    ·rw[hob hb0,bodyP_nil (hbb.symm.trans hb0)]
    ·have hs2:xs=l.map rgP:=by rw[hS,hbb];exact split_body hl.1 (by rw[←hbb];exact hb0)
     rw[hol2 l hl,hs2,List.length_map,List.take_length]
   have hoL:out.length<10000000:=by omega
   push_cast -dsimp
   refine seqIn (ro:=none) (by rfl) ?_
   have c7:W.cell? ⟨w.heap.size+3,0,none⟩=some v:=P4.cell rfl
   have hsh:=ho.slice
   obtain⟨va,vc,rfl⟩:=hsh
   push_cast -dsimp[c7]
   refine callK_of (setRight_c out (by omega) _ _ W ho.sl) ?_
   rintro _ w8 ⟨rfl,hb8⟩
   have hbs:=hbB.size
   have l4:=P4.lt
   have E1:=P1.below hb8 (by omega)
   have E2:=P2.below hb8 (by omega)
   have E4:=P4.below hb8 (by omega)
   have ho8:=ho.below hb8
   have hbB8:=hbB.trans (hb8.mono hbs)
   have hD8:=(hb8.block w7.heap.size (Array.getElem?_eq_some_iff.1 hD).1).trans hD
   have c8:w8.cell? ⟨w.heap.size+3,0,none⟩=some (.slice va out.length vc):=E4.cell rfl
   cases hr:setRight (-2) out with
   | false =>
    have herr:∀l,¬PrintOf s l:=fun l hl=>by
     have:=hout l hl
     subst this
     rw[hl.1]at hr;cases hr
    push_cast -dsimp
    refine storeK_of E1 (by simp) rfl ?_
    intro wa hwa
    have sza:wa.heap.size=w8.heap.size:=hwa.size
    have Ta:Blk wa w.heap.size 41 [.slice none 0 0]:=hwa.blk
    have Tb:=E2.kept hwa.kept (by omega)
    have hka:=hwa.kept
    have hDa:=(hka.block w7.heap.size (by have:=(Array.getElem?_eq_some_iff.1 hD8).1;omega) (by omega)).trans hD8
    have hba:=hbB8.trans (hka.below (B:=w.heap.size) (by have:=hbB8.size;omega) (fun i h=>by omega))
    push_cast -dsimp
    refine storeK_of Tb (by simp) rfl ?_
    intro wb hwb
    have szb:wb.heap.size=wa.heap.size:=hwb.size
    have Ub:=Ta.kept hwb.kept (by omega)
    have hkb:=hwb.kept
    have hDb:=(hkb.block w7.heap.size (by have:=(Array.getElem?_eq_some_iff.1 hDa).1;omega) (by omega)).trans hDa
    have hbb:=hba.trans (hkb.below (B:=w.heap.size) (by have:=hba.size;omega) (fun i h=>by omega))
    push_cast -dsimp
    exact parse_end es7 Ub hwb.blk hDb hbb (.inr ⟨herr,rfl⟩) (by rfl) (by rfl)
   | true =>
    push_cast -dsimp[c8]
    refine callK_of (print_c out (by omega) (wr_right (a := -2) (by omega) hr) _ _ w8 ho8.sl (hd.below hbB8 hd.lt)) ?_
    rintro _ w9 ⟨rfl,hb9⟩
    have l48:=E4.lt
    have E19:=E1.below hb9 (by have:=hb8.size;omega)
    have E29:=E2.below hb9 (by have:=hb8.size;omega)
    have E49:=E4.below hb9 (by have:=hb8.size;omega)
    have ho9:=ho8.below hb9
    have hbB9:=hbB8.trans (hb9.mono hbB8.size)
    have hD9:=(hb9.block w7.heap.size (Array.getElem?_eq_some_iff.1 hD8).1).trans hD8
    have c9:w9.cell? ⟨w.heap.size+3,0,none⟩=some (.slice va out.length vc):=E49.cell rfl
    push_cast -dsimp
    refine⟨fun hne=>?_,fun heq=>?_⟩
    ·have herr:∀l,¬PrintOf s l:=fun l hl=>by
      have:=hout l hl
      subst this
      exact hne hl.2
     refine storeK_of E19 (by simp) rfl ?_
     intro wa hwa
     have sza:wa.heap.size=w9.heap.size:=hwa.size
     have Ta:Blk wa w.heap.size 41 [.slice none 0 0]:=hwa.blk
     have Tb:=E29.kept hwa.kept (by omega)
     have hka:=hwa.kept
     have hDa:=(hka.block w7.heap.size (by have:=(Array.getElem?_eq_some_iff.1 hD9).1;omega) (by omega)).trans hD9
     have hba:=hbB9.trans (hka.below (B:=w.heap.size) (by have:=hbB9.size;omega) (fun i h=>by omega))
     push_cast -dsimp
     refine storeK_of Tb (by simp) rfl ?_
     intro wb hwb
     have szb:wb.heap.size=wa.heap.size:=hwb.size
     have Ub:=Ta.kept hwb.kept (by omega)
     have hkb:=hwb.kept
     have hDb:=(hkb.block w7.heap.size (by have:=(Array.getElem?_eq_some_iff.1 hDa).1;omega) (by omega)).trans hDa
     have hbb:=hba.trans (hkb.below (B:=w.heap.size) (by have:=hba.size;omega) (fun i h=>by omega))
     push_cast -dsimp
     exact parse_end es7 Ub hwb.blk hDb hbb (.inr ⟨herr,rfl⟩) (by rfl) (by rfl)
    ·refine seqIn (ro:=none) (by rfl) ?_
     push_cast -dsimp[c9]
     refine storeK_of E19 (by simp) rfl ?_
     intro wa hwa
     have sza:wa.heap.size=w9.heap.size:=hwa.size
     have hka:=hwa.kept
     have l49:=E49.lt
     have Ta:Blk wa w.heap.size 41 [.slice va out.length vc]:=hwa.blk
     have Tb:=E29.kept hwa.kept (by omega)
     have hoa:=ho9.keptX hwa.kept (fun g hg h=>by have:=(ho9.block g hg).1;omega)
     have lD:=(Array.getElem?_eq_some_iff.1 hD9).1
     have hDa:=(hka.block w7.heap.size (by omega) (by omega)).trans hD9
     have hba:=hbB9.trans (hka.below (B:=w.heap.size) (by omega) (fun i h=>by omega))
     push_cast -dsimp
     refine storeK_of Tb (by simp) rfl ?_
     intro wb hwb
     have szb:wb.heap.size=wa.heap.size:=hwb.size
     have hkb:=hwb.kept
     have Ub:=Ta.kept hwb.kept (by omega)
     have hob':=hoa.keptX hwb.kept (fun g hg h=>by have:=(hoa.block g hg).1;omega)
     have hDb:=(hkb.block w7.heap.size (by omega) (by omega)).trans hDa
     have hbb:=hba.trans (hkb.below (B:=w.heap.size) (by omega) (fun i h=>by omega))
     have hoe:=hob'.keptX (keptPut (X:=fun k=>k=w7.heap.size) wb w7.heap.size (.deferred none) rfl) (fun g hg h=>by have:=(hob'.block g hg).1;omega)
     push_cast -dsimp
     refine wpIn_ret ?_
     exact parse_end es7 Ub hwb.blk hDb hbb (.inl ⟨_,out,rfl,hoe.mono (by omega),hr,Classical.not_not.1 heq⟩) (by rfl) (by rfl)
  ·intro c pre W hSp hX hD
   rcases hX with ⟨rfl,h1,h2,herr,hb⟩|⟨rfl,hbe,hI⟩
   ·refine wpIn_ret ?_
    push_cast -dsimp
    exact parse_end es7 h1 h2 hD hb (.inr ⟨herr,rfl⟩) (by rfl) (by rfl)
   ·obtain⟨v,out,P1,P2,P3,P4,ho,hol,hob,hol2,hbB⟩:=hI
    have hout:∀l,PrintOf s l→out=l:=fun l hl=>by
     have hbb:body=bodyP l:=by rw[←hbody];exact(print_pre hl).2.2
     rw[hob hbe,bodyP_nil (hbb.symm.trans hbe)]
    have hoL:out.length<10000000:=by rw[hob hbe];decide
    refine wpIn_exit ?_
    push_cast -dsimp
    refine seqIn (ro:=none) (by rfl) ?_
    have c7:W.cell? ⟨w.heap.size+3,0,none⟩=some v:=P4.cell rfl
    have hsh:=ho.slice
    obtain⟨va,vc,rfl⟩:=hsh
    push_cast -dsimp[c7]
    refine callK_of (setRight_c out (by omega) _ _ W ho.sl) ?_
    rintro _ w8 ⟨rfl,hb8⟩
    have hbs:=hbB.size
    have l4:=P4.lt
    have E1:=P1.below hb8 (by omega)
    have E2:=P2.below hb8 (by omega)
    have E4:=P4.below hb8 (by omega)
    have ho8:=ho.below hb8
    have hbB8:=hbB.trans (hb8.mono hbs)
    have hD8:=(hb8.block w7.heap.size (Array.getElem?_eq_some_iff.1 hD).1).trans hD
    have c8:w8.cell? ⟨w.heap.size+3,0,none⟩=some (.slice va out.length vc):=E4.cell rfl
    cases hr:setRight (-2) out with
    | false =>
     have herr:∀l,¬PrintOf s l:=fun l hl=>by
      have:=hout l hl
      subst this
      rw[hl.1]at hr;cases hr
     push_cast -dsimp
     refine storeK_of E1 (by simp) rfl ?_
     intro wa hwa
     have sza:wa.heap.size=w8.heap.size:=hwa.size
     have Ta:Blk wa w.heap.size 41 [.slice none 0 0]:=hwa.blk
     have Tb:=E2.kept hwa.kept (by omega)
     have hka:=hwa.kept
     have hDa:=(hka.block w7.heap.size (by have:=(Array.getElem?_eq_some_iff.1 hD8).1;omega) (by omega)).trans hD8
     have hba:=hbB8.trans (hka.below (B:=w.heap.size) (by have:=hbB8.size;omega) (fun i h=>by omega))
     push_cast -dsimp
     refine storeK_of Tb (by simp) rfl ?_
     intro wb hwb
     have szb:wb.heap.size=wa.heap.size:=hwb.size
     have Ub:=Ta.kept hwb.kept (by omega)
     have hkb:=hwb.kept
     have hDb:=(hkb.block w7.heap.size (by have:=(Array.getElem?_eq_some_iff.1 hDa).1;omega) (by omega)).trans hDa
     have hbb:=hba.trans (hkb.below (B:=w.heap.size) (by have:=hba.size;omega) (fun i h=>by omega))
     push_cast -dsimp
     exact parse_end es7 Ub hwb.blk hDb hbb (.inr ⟨herr,rfl⟩) (by rfl) (by rfl)
    | true =>
     push_cast -dsimp[c8]
     refine callK_of (print_c out (by omega) (wr_right (a := -2) (by omega) hr) _ _ w8 ho8.sl (hd.below hbB8 hd.lt)) ?_
     rintro _ w9 ⟨rfl,hb9⟩
     have l48:=E4.lt
     have E19:=E1.below hb9 (by have:=hb8.size;omega)
     have E29:=E2.below hb9 (by have:=hb8.size;omega)
     have E49:=E4.below hb9 (by have:=hb8.size;omega)
     have ho9:=ho8.below hb9
     have hbB9:=hbB8.trans (hb9.mono hbB8.size)
     have hD9:=(hb9.block w7.heap.size (Array.getElem?_eq_some_iff.1 hD8).1).trans hD8
     have c9:w9.cell? ⟨w.heap.size+3,0,none⟩=some (.slice va out.length vc):=E49.cell rfl
     push_cast -dsimp
     refine⟨fun hne=>?_,fun heq=>?_⟩
     ·have herr:∀l,¬PrintOf s l:=fun l hl=>by
       have:=hout l hl
       subst this
       exact hne hl.2
      refine storeK_of E19 (by simp) rfl ?_
      intro wa hwa
      have sza:wa.heap.size=w9.heap.size:=hwa.size
      have Ta:Blk wa w.heap.size 41 [.slice none 0 0]:=hwa.blk
      have Tb:=E29.kept hwa.kept (by omega)
      have hka:=hwa.kept
      have hDa:=(hka.block w7.heap.size (by have:=(Array.getElem?_eq_some_iff.1 hD9).1;omega) (by omega)).trans hD9
      have hba:=hbB9.trans (hka.below (B:=w.heap.size) (by have:=hbB9.size;omega) (fun i h=>by omega))
      push_cast -dsimp
      refine storeK_of Tb (by simp) rfl ?_
      intro wb hwb
      have szb:wb.heap.size=wa.heap.size:=hwb.size
      have Ub:=Ta.kept hwb.kept (by omega)
      have hkb:=hwb.kept
      have hDb:=(hkb.block w7.heap.size (by have:=(Array.getElem?_eq_some_iff.1 hDa).1;omega) (by omega)).trans hDa
      have hbb:=hba.trans (hkb.below (B:=w.heap.size) (by have:=hba.size;omega) (fun i h=>by omega))
      push_cast -dsimp
      exact parse_end es7 Ub hwb.blk hDb hbb (.inr ⟨herr,rfl⟩) (by rfl) (by rfl)
     ·refine seqIn (ro:=none) (by rfl) ?_
      push_cast -dsimp[c9]
      refine storeK_of E19 (by simp) rfl ?_
      intro wa hwa
      have sza:wa.heap.size=w9.heap.size:=hwa.size
      have hka:=hwa.kept
      have l49:=E49.lt
      have Ta:Blk wa w.heap.size 41 [.slice va out.length vc]:=hwa.blk
      have Tb:=E29.kept hwa.kept (by omega)
      have hoa:=ho9.keptX hwa.kept (fun g hg h=>by have:=(ho9.block g hg).1;omega)
      have lD:=(Array.getElem?_eq_some_iff.1 hD9).1
      have hDa:=(hka.block w7.heap.size (by omega) (by omega)).trans hD9
      have hba:=hbB9.trans (hka.below (B:=w.heap.size) (by omega) (fun i h=>by omega))
      push_cast -dsimp
      refine storeK_of Tb (by simp) rfl ?_
      intro wb hwb
      have szb:wb.heap.size=wa.heap.size:=hwb.size
      have hkb:=hwb.kept
      have Ub:=Ta.kept hwb.kept (by omega)
      have hob':=hoa.keptX hwb.kept (fun g hg h=>by have:=(hoa.block g hg).1;omega)
      have hDb:=(hkb.block w7.heap.size (by omega) (by omega)).trans hDa
      have hbb:=hba.trans (hkb.below (B:=w.heap.size) (by omega) (fun i h=>by omega))
      have hoe:=hob'.keptX (keptPut (X:=fun k=>k=w7.heap.size) wb w7.heap.size (.deferred none) rfl) (fun g hg h=>by have:=(hob'.block g hg).1;omega)
      push_cast -dsimp
      refine wpIn_ret ?_
      exact parse_end es7 Ub hwb.blk hDb hbb (.inl ⟨_,out,rfl,hoe.mono (by omega),hr,Classical.not_not.1 heq⟩) (by rfl) (by rfl)
end Go.Proofs.YtledlfbbebodgaaGreatDoor
end
section
namespace Go.Vc
open Go.RowKit
section
variable {P:Program} {t:Fr} {w:World} {K:VK} {Q:EP}
def Fun2 (P:Program)(f:FuncId)(args:List Value)(w:World)(R:VK)(E:List PanicEntry→World→Prop):Prop :=
 (callFunc f args.toArray).run P w=.ok (.enter f args.toArray) w∧Calls P f args.toArray w fun e w'=>match e with
  | .returned v=>R v w'
  | .panicked c=>E c w'
  | .outgrown=>False
theorem callP_of {f:FuncId}{args:List Value}{R:VK}{E:List PanicEntry→World→Prop}{p}(h:Fun2 P f args w R E)(k:∀v w',R v w'→K v w')(ke:∀c w',E c w'→Q (.panic c) t w'):callK P f args t w K Q p:=by
 unfold callK;rw[h.1];exact h.2.mono fun e w' he=>by cases e<;>first|exact k _ _ he|exact ke _ _ he|exact he.elim
theorem Fun.two {f:FuncId}{args:List Value}{R:VK}(h:Fun P f args w R):Fun2 P f args w R (fun _ _=>False) :=
 ⟨h.1,h.2.mono fun e w' ⟨v,he,hr⟩=>by subst he;exact hr⟩
def retE (P:Program)(rs:List ResultVar)(R:VK)(E:List PanicEntry→World→Prop)(_:Ph (R,E)):EP
 | .normal,t,w=>retL P t w rs fun vs=>R (tup vs) w
 | .ret,t,w=>retL P t w rs fun vs=>R (tup vs) w
 | .panic c,_,w=>E c w
 | _,_,_=>False
variable {R:VK} {E:List PanicEntry→World→Prop}
theorem retE_normal (rs)(p):retE P rs R E p .normal t w=retL P t w rs fun vs=>R (tup vs) w:=(rfl)
theorem retE_ret (rs)(p):retE P rs R E p .ret t w=retL P t w rs fun vs=>R (tup vs) w:=(rfl)
theorem retE_panic (rs)(c)(p):retE P rs R E p (.panic c) t w=E c w:=(rfl)
theorem fun2_of_vc {f:FuncId}{fn:Func}{c:Code}{args:List Value}(hf:P.funcs[f]?=some fn)(hb:fn.body=some c)(hn:(fn.name == "runtime.NumGoroutine")=false)
  (rs:List ResultVar) (hrs:fn.results=rs.toArray) (h:vc P c (retE P rs R E .mk) (fr0 args fn.ntmps) w .mk):Fun2 P f args w R E:=by
 refine⟨callFunc_enter hf (by simp[hb]) hn,calls_of_wp hf hb ?_⟩;have h1:=vc_ok c _ _ w h;unfold wpL at h1;have e:(args.toArray++Array.replicate (fn.ntmps-args.toArray.size) undef)=(fr0 args fn.ntmps).toArray:=by simp[fr0]
 rw[e];refine Code.wp_mono ?_ h1;rintro e a w' ⟨hd,hh⟩;have ha:a.tmps.toList.toArray=a.tmps:=by simp
 cases e<;>simp only[retE]at hh<;>first|exact hh.elim|skip
 ·obtain⟨vs,hv,hk⟩:=resultsC_run fn rs hrs _ _ hh;exact⟨hd,_,by rw[←ha];exact hv,hk⟩
 ·obtain⟨vs,hv,hk⟩:=resultsC_run fn rs hrs _ _ hh;exact⟨hd,_,by rw[←ha];exact hv,hk⟩
 ·exact⟨hd,hh⟩
theorem panicK {ty:TypeId}{v:Value}{p}(k:Q (.panic [{ v:=.iface ty v,recovered:=false }]) t w):valK P (Instr.panic (.iface ty v)) t w K Q p:=by
 unfold valK;have:((do pure (Next.value (←Instr.panic (.iface ty v))):Sem Next).run P w)=.halt (.panic (.iface ty v)) w:=rfl;rw[this];exact k
end
attribute [push_cast] retE_normal retE_ret retE_panic seqQ_panic blockQ_panic
end Go.Vc
end
section
namespace Go.Vc
open Go.RowKit
def chainN (P:Program)(o:Oper):Bool:=match o.op with
 | .convert _ d _=>!((P.underlying d) matches some (.int _))
 | .move _|.assign _|.pick ..|.binOp ..|.unOp ..|.extract ..|.index ..|.build ..|.makeFunc ..|.fieldAddr ..|.field ..|.indexAddr ..|.slice ..|.makeInterface ..|.load ..=>false
 | .call { callee:=.builtin .len,.. }|.call { callee:=.builtin .max,.. }|.call { callee:=.builtin .min,.. }=>false
 | .nilCheck _=>false
 | _=>true
section
variable {P:Program} {ops:Array Oper} {md:Region.Mode} {C:World→Prop}
def mixOpN (P:Program)(ops:Array Oper)(C:World→Prop)(i:Nat)(K:Act→World→Prop)(a:Act)(w:World):Prop :=
 match ops[i]? with
 | none=>K a w
 | some o =>
  if Region.wanted o (yielded ops a.tmps) then
   if chainN P o then resA P a o.dst C K ((execOp a.eval o).run P w)
   else ∃v,(∀w',C w'→(execOp a.eval o).run P w'=.ok (.value v) w')∧K (a.put o.dst v) w
  else K (a.put o.dst undef) w
theorem mixOp_monoN {i:Nat}{K K':Act→World→Prop}{a:Act}{w:World}(hC:C w)(hk:∀a w,C w→K a w→K' a w)(h:mixOpN P ops C i K a w):mixOpN P ops C i K' a w:=by
 unfold mixOpN at *;split
 ·rename_i ho;simp only[ho]at h;exact hk _ _ hC h
 ·rename_i o ho;simp only[ho]at h;split
  ·rename_i hw;simp only[hw,if_true]at h;split
   ·rename_i hc;simp only[hc,if_true]at h;exact resA_mono (fun v w' hw' hh=>hk _ _ hw' hh) h
   ·rename_i hc;simp only[hc]at h;obtain⟨v,h1,h2⟩:=h;exact⟨v,h1,hk _ _ hC h2⟩
  ·rename_i hw;simp only[hw]at h;exact hk _ _ hC h
theorem mixOp_someN {i:Nat}{K:Act→World→Prop}{a:Act}{w:World}(hC:C w)(h:mixOpN P ops C i K a w):∃a' w',C w'∧K a' w':=by
 unfold mixOpN at h;split at h
 ·exact⟨_,_,hC,h⟩
 ·split at h
  ·split at h
   ·obtain⟨v,w',hh⟩:=resA_some h;exact⟨_,_,hh⟩
   ·obtain⟨v,_,hh⟩:=h;exact⟨_,_,hC,hh⟩
  ·exact⟨_,_,hC,h⟩
theorem mixOp_noN {i:Nat}{o:Oper}{K:Act→World→Prop}{a:Act}{w:World}(hi:ops[i]?=some o)(hw:Region.wanted o (yielded ops a.tmps)=false):mixOpN P ops C i K a w=K (a.put o.dst undef) w:=by
 unfold mixOpN;simp[hi,hw]
theorem mixOp_chainN {i:Nat}{o:Oper}{K:Act→World→Prop}{a:Act}{w:World}(hi:ops[i]?=some o)(hw:Region.wanted o (yielded ops a.tmps)=true)(hc:chainN P o=true):mixOpN P ops C i K a w=resA P a o.dst C K ((execOp a.eval o).run P w):=by
 unfold mixOpN;simp[hi,hw,hc]
theorem mixOp_quietN {i:Nat}{o:Oper}{K:Act→World→Prop}{a:Act}{w:World}(hi:ops[i]?=some o)(hw:Region.wanted o (yielded ops a.tmps)=true)(hc:chainN P o=false):mixOpN P ops C i K a w=∃v,(∀w',C w'→(execOp a.eval o).run P w'=.ok (.value v) w')∧K (a.put o.dst v) w:=by
 unfold mixOpN;simp[hi,hw,hc]
theorem mixOp_swapN {i j:Nat}{oi oj:Oper}{K:Act→World→Prop}{a:Act}{w:World}(hi:ops[i]?=some oi)(hj:ops[j]?=some oj)(hap:oi.apart ops oj=true)(hch:(chainN P oi && chainN P oj)=false)
  (hsi:∀cs b,oi.op≠.select cs b) (hsj:∀cs b,oj.op≠.select cs b) (h:mixOpN P ops C i (mixOpN P ops C j K) a w):mixOpN P ops C j (mixOpN P ops C i K) a w:=by
 obtain⟨h1,h2,h3⟩:=Oper.apart_spec hap;have ej:∀(b:Act) (v:Value),execOp (b.put oi.dst v).eval oj=execOp b.eval oj:=fun b v=>execOp_put oj hsj b oi.dst v h1;have ei:∀(b:Act) (v:Value),execOp (b.put oj.dst v).eval oi=execOp b.eval oi:=fun b v=>execOp_put oi hsi b oj.dst v h3
 have wj:∀(b:Act) (v:Value),Region.wanted oj (yielded ops (b.put oi.dst v).tmps)=Region.wanted oj (yielded ops b.tmps):=fun b v=>wanted_put oj b oi.dst v h1;have wi:∀(b:Act) (v:Value),Region.wanted oi (yielded ops (b.put oj.dst v).tmps)=Region.wanted oi (yielded ops b.tmps):=fun b v=>wanted_put oi b oj.dst v h3
 have cm:∀(b:Act) (v u:Value),(b.put oi.dst v).put oj.dst u=(b.put oj.dst u).put oi.dst v:=fun b v u=>Act.put_comm b v u h2;cases hwi:Region.wanted oi (yielded ops a.tmps) with
 | false =>
  rw[mixOp_noN hi hwi]at h;cases hwj:Region.wanted oj (yielded ops a.tmps) with
  | false =>
   rw[mixOp_noN hj (by rw[wj];exact hwj)]at h;rw[mixOp_noN hj hwj,mixOp_noN hi (by rw[wi];exact hwi),←cm];exact h
  | true =>
   cases hcj:chainN P oj with
   | true =>
    rw[mixOp_chainN hj (by rw[wj];exact hwj) hcj,ej]at h;rw[mixOp_chainN hj hwj hcj];refine resA_mono (fun v w' _ hh=>?_) h;rw[mixOp_noN hi (by rw[wi];exact hwi),←cm];exact hh
   | false =>
    rw[mixOp_quietN hj (by rw[wj];exact hwj) hcj,ej]at h;rw[mixOp_quietN hj hwj hcj];obtain⟨v,hv,hk⟩:=h;refine⟨v,hv,?_⟩;rw[mixOp_noN hi (by rw[wi];exact hwi),←cm];exact hk
 | true =>
  cases hci:chainN P oi with
  | true =>
   have hcj:chainN P oj=false:=by simpa[hci] using hch
   rw[mixOp_chainN hi hwi hci]at h;cases hwj:Region.wanted oj (yielded ops a.tmps) with
   | false =>
    rw[mixOp_noN hj hwj,mixOp_chainN hi (by rw[wi];exact hwi) hci,ei];refine resA_mono (fun v w' _ hh=>?_) h;rw[mixOp_noN hj (by rw[wj];exact hwj)]at hh;rw[←cm];exact hh
   | true =>
    obtain⟨v,w',hw',hh⟩:=resA_some h;rw[mixOp_quietN hj (by rw[wj];exact hwj) hcj,ej]at hh;obtain⟨u,hu,hk⟩:=hh;rw[mixOp_quietN hj hwj hcj];refine⟨u,hu,?_⟩;rw[mixOp_chainN hi (by rw[wi];exact hwi) hci,ei];refine resA_mono (fun v' w'' hw'' hh=>?_) h;rw[mixOp_quietN hj (by rw[wj];exact hwj) hcj,ej]at hh;obtain⟨u',hu',hk'⟩:=hh;have e:=(hu w'' hw'').symm.trans (hu' w'' hw'');injection e with e1 _
    injection e1 with e2;subst e2;rw[←cm];exact hk'
  | false =>
   rw[mixOp_quietN hi hwi hci]at h;obtain⟨v,hv,hk⟩:=h;cases hwj:Region.wanted oj (yielded ops a.tmps) with
   | false =>
    rw[mixOp_noN hj (by rw[wj];exact hwj)]at hk;rw[mixOp_noN hj hwj,mixOp_quietN hi (by rw[wi];exact hwi) hci,ei];exact⟨v,hv,by rw[←cm];exact hk⟩
   | true =>
    cases hcj:chainN P oj with
    | true =>
     rw[mixOp_chainN hj (by rw[wj];exact hwj) hcj,ej]at hk;rw[mixOp_chainN hj hwj hcj];refine resA_mono (fun u w' _ hh=>?_) hk;rw[mixOp_quietN hi (by rw[wi];exact hwi) hci,ei];exact⟨v,hv,by rw[←cm];exact hh⟩
    | false =>
     rw[mixOp_quietN hj (by rw[wj];exact hwj) hcj,ej]at hk;rw[mixOp_quietN hj hwj hcj];obtain⟨u,hu,hk⟩:=hk;refine⟨u,hu,?_⟩;rw[mixOp_quietN hi (by rw[wi];exact hwi) hci,ei];exact⟨v,hv,by rw[←cm];exact hk⟩
def wpMixN (P:Program)(md:Region.Mode)(ops:Array Oper)(C:World→Prop)(R:Act→World→Prop):Nat→Array Bool→Act→World→Prop
 | 0,listed,a,w=>Region.ready md ops listed=[]∧R a w
 | fuel+1,listed,a,w=>(Region.ready md ops listed=[]→R a w)∧∀i∈Region.ready md ops listed,mixOpN P ops C i (wpMixN P md ops C R fuel (listed.setIfInBounds i true)) a w
theorem wpAny_of_mixN {R:Act→World→Prop}{Q:Exit→Act→World→Prop}(hq:∀a w,R a w→Q .normal a w):∀(fuel:Nat) (listed:Array Bool) (a:Act) (w:World),C w →
  wpMixN P md ops C R fuel listed a w→wpAny P md ops Q fuel listed a w
 | 0,_,_,_,_,h=>⟨h.1,hq _ _ h.2⟩
 | fuel+1,listed,a,w,hC,h=>⟨fun h0=>hq _ _ (h.1 h0),fun i hi=>by
   have h1:=h.2 i hi;unfold mixOpN at h1;unfold wpOp;split
   ·rename_i ho;simp only[ho]at h1;exact wpAny_of_mixN hq fuel _ _ _ hC h1
   ·rename_i o ho;simp only[ho]at h1;split
    ·rename_i hw;simp only[hw,if_true]at h1;refine .inl ?_;split at h1
     ·exact Oper.wp_mono (fun a' w' hh=>wpAny_of_mixN hq fuel _ _ _ hh.1 hh.2) (upon_of_resA h1)
     ·obtain⟨v,hv,hk⟩:=h1;unfold Oper.wp;rw[hv w hC];exact wpAny_of_mixN hq fuel _ _ _ hC hk
    ·rename_i hw;simp only[hw]at h1;exact wpAny_of_mixN hq fuel _ _ _ hC h1⟩
theorem wpMix_firstN {R:Act→World→Prop} {i:Nat} {oi:Oper} (hi:ops[i]?=some oi) (hsel:∀(j:Nat) (o:Oper) cs b,ops[j]?=some o→o.op≠.select cs b) :
  ∀(fuel:Nat) (listed:Array Bool) (a:Act) (w:World),C w→Shut ops listed →
   (∀j oj,ops[j]?=some oj→j≠i→listed.getD j true=false→((Region.before ops).getD j 0).testBit i=false→oi.apart ops oj=true∧(chainN P oi && chainN P oj)=false) →
   i∈Region.ready .any ops listed→mixOpN P ops C i (wpMixN P .any ops C R fuel (listed.setIfInBounds i true)) a w→wpMixN P .any ops C R (fuel+1) listed a w:=by
 intro fuel
 induction fuel with
 | zero =>
  intro listed a w hC _ _ hr H
  refine⟨fun h=>(by rw[h]at hr;cases hr),fun j hj=>?_⟩
  by_cases hji:j=i
  ·subst hji;exact H
  ·have:=ready_mono hj hji
   obtain⟨_,_,_,hh⟩:=mixOp_someN hC H
   rw[hh.1]at this
   cases this
 | succ fuel ih =>
  intro listed a w hC hS hfree hr H
  refine⟨fun h=>(by rw[h]at hr;cases hr),fun j hj=>?_⟩
  by_cases hji:j=i
  ·subst hji;exact H
  ·have h1:mixOpN P ops C i (mixOpN P ops C j (wpMixN P .any ops C R fuel ((listed.setIfInBounds i true).setIfInBounds j true))) a w :=
    mixOp_monoN hC (fun a' w' _ hh=>hh.2 j (ready_mono hj hji)) H
   obtain⟨hjun,oj,hoj,hall⟩:=mem_ready.1 hj
   have hiun:listed.getD i false=false:=by
    have h0:=(mem_ready.1 hr).1
    rcases Nat.lt_or_ge i listed.size with h'|h'
    ·simp[h']at h0 ⊢;exact h0
    ·simp[Array.getElem?_eq_none h']
   have hnot:((Region.before ops).getD j 0).testBit i=false:=by
    cases hb:((Region.before ops).getD j 0).testBit i with
    | false=>rfl
    | true=>have:=hS.before j i oj hoj hall hb;rw[hiun]at this;cases this
   obtain⟨hap,hch⟩:=hfree j oj hoj hji hjun hnot
   have h2:=mixOp_swapN hi hoj hap hch (fun cs b=>hsel i oi cs b hi) (fun cs b=>hsel j oj cs b hoj) h1
   refine mixOp_monoN hC (fun a' w' hC' h3=>ih (listed.setIfInBounds j true) a' w' hC' (hS.set hj) ?_ (ready_mono hr (Ne.symm hji)) ?_) h2
   ·intro k ok hk hki hun hno
    refine hfree k ok hk hki ?_ hno
    by_cases hjk:j=k
    ·subst hjk;exact hjun
    ·rw[getD_set_ne true hjk]at hun;exact hun
   ·rw[Array.setIfInBounds_comm _ _ hji]
    exact h3
def mixFreeN (P:Program)(ops:Array Oper)(bf:Array Nat)(listed:Array Bool)(i:Nat):Bool :=
 match ops[i]? with
 | none=>false
 | some oi=>(List.range ops.size).all fun j=>j == i || listed.getD j true || match ops[j]? with
   | some oj=>(bf.getD j 0).testBit i || (oi.apart ops oj && !(chainN P oi && chainN P oj))
   | none=>true
theorem mixFree_specN {i:Nat}{oi:Oper}{listed:Array Bool}(hi:ops[i]?=some oi)(h:mixFreeN P ops (Region.before ops) listed i=true)(j:Nat)(oj:Oper)
  (hj:ops[j]?=some oj) (hne:j≠i) (hun:listed.getD j true=false) (hno:((Region.before ops).getD j 0).testBit i=false) :
  oi.apart ops oj=true∧(chainN P oi && chainN P oj)=false:=by
 simp only[mixFreeN,hi,List.all_eq_true,List.mem_range]at h;have h1:=h j (Array.getElem?_eq_some_iff.1 hj).1;simp only[hj,Bool.or_eq_true,beq_iff_eq,hne,false_or,hun,Bool.false_eq_true,hno]at h1;simp only[Bool.and_eq_true,Bool.not_eq_true']at h1;exact h1
def mixFromN (P:Program)(ops:Array Oper)(bf:Array Nat):Nat→Nat→Array Bool→Bool
 | 0,_,listed=>(Region.ready .any ops listed).isEmpty
 | fuel+1,k,listed=>(Region.ready .any ops listed).contains k && mixFreeN P ops bf listed k && mixFromN P ops bf fuel (k+1) (listed.setIfInBounds k true)
def mixBN (P:Program)(ops:Array Oper):Bool:=Region.noSelect ops && mixFromN P ops (Region.before ops) ops.size 0 (Array.replicate ops.size false)
def wpLexN (P:Program)(ops:Array Oper)(C:World→Prop)(R:Act→World→Prop):List Nat→Act→World→Prop
 | [],a,w=>R a w
 | i::r,a,w=>mixOpN P ops C i (wpLexN P ops C R r) a w
theorem wpMix_lexN {R:Act→World→Prop}(hs:Region.noSelect ops=true):∀(n k:Nat) (listed:Array Bool) (a:Act) (w:World),k+n=ops.size→C w→Shut ops listed →
  mixFromN P ops (Region.before ops) n k listed=true→wpLexN P ops C R (List.range' k n) a w→wpMixN P .any ops C R n listed a w
 | 0,_,_,_,_,_,_,_,hB,h=>⟨by simpa[mixFromN] using hB,h⟩
 | n+1,k,listed,a,w,hk,hC,hS,hB,h=>by
  simp only[mixFromN,Bool.and_eq_true]at hB;obtain⟨⟨hr,hf⟩,hB'⟩:=hB;have hlt:k<ops.size:=by omega
  have hr':k∈Region.ready .any ops listed:=by simpa using hr
  refine wpMix_firstN (i:=k) (oi:=ops[k]) (by simp[hlt]) (Region.noSelect_spec hs) n listed a w hC hS (mixFree_specN (by simp[hlt]) hf) hr' ?_;simp only[List.range'_succ,wpLexN]at h;exact mixOp_monoN hC (fun a' w' hC' hh=>wpMix_lexN hs n (k+1) _ a' w' (by omega) hC' (hS.set hr') hB' hh) h
end
section
variable {P:Program}
def mixKN (P:Program)(o:Oper)(t:Fr)(w:World)(C:World→Prop)(K:VK)(_:Ph (o,C,K)):Prop :=
 match o.op with
 | .load ty a=>loadK (tyK P ty) (ev t a) w (fun v w'=>(∀w'',C w''→loadK (tyK P ty) (ev t a) w'' (fun u _=>u=v) .mk)∧K v w') .mk
 | .nilCheck x=>nilK (ev t x) (K · w) False .mk
 | _=>if chainN P o then opK P o t w (fun v w'=>C w'∧K v w') noQ .mk else pureK P o t (K · w) False .mk
def vcMixN (P:Program)(ops:List Oper)(C:World→Prop)(R:Fr→World→Prop):(l:List Oper)→Fr→World→Ph (ops,C,R,l)→Prop
 | [],t,w,_=>R t w
 | o::r,t,w,_=>match o.guard with
  | none=>mixKN P o t w C (fun v w'=>vcMixN P ops C R r (put t o.dst v) w' .mk) .mk
  | some (j,want)=>guardK (slotOf ops j) want t (fun t'=>mixKN P o t' w C (fun v w'=>vcMixN P ops C R r (put t' o.dst v) w' .mk) .mk) (fun t'=>vcMixN P ops C R r (put t' o.dst undef) w .mk) .mk
theorem mixOp_of_mixKN {ops:List Oper}{i:Nat}{o:Oper}{C:World→Prop}{t:Fr}{w:World}{K:VK}{N:Act→World→Prop}(hi:ops[i]?=some o)(hw:Region.wanted o (yielded ops.toArray t.toArray)=true)
  (hn:∀v w',K v w'→N ⟨(put t o.dst v).toArray,[]⟩ w') (h:mixKN P o t w C K .mk):mixOpN P ops.toArray C i N ⟨t.toArray,[]⟩ w:=by
 unfold mixOpN;simp only[List.getElem?_toArray,hi,hw,if_true,ev_eq];unfold mixKN at h;split at h
 ·rename_i ty x ho;have hc:chainN P o=false:=by simp[chainN,ho]
  simp only[hc,Bool.false_eq_true,if_false];obtain⟨v,hr,hall,hk⟩:=loadK_run ho h;refine⟨v,fun w' hw'=>?_,by rw[put_eq];exact hn _ _ hk⟩;obtain⟨u,hu,hv⟩:=loadK_run ho (hall w' hw');rw[hu,hv]
 ·rename_i x ho;have hc:chainN P o=false:=by simp[chainN,ho]
  simp only[hc,Bool.false_eq_true,if_false];unfold nilK at h;split at h
  ·rename_i a hx;refine⟨_,fun w' _=>?_,by rw[put_eq];exact hn _ _ h⟩;unfold execOp;simp only[ho,hx];rfl
  ·exact h.elim
 ·split at h
  ·rename_i hc;simp only[hc,if_true];exact resA_of_resK hn (opK_ok h)
  ·rename_i hc;simp only[hc];rcases pureK_ok h with h|⟨v,hg,hk⟩
   ·exact h.elim
   ·exact⟨v,fun w' _=>hg w',by rw[put_eq];exact hn _ _ hk⟩
theorem mixOp_skipN {ops:List Oper}{i:Nat}{o:Oper}{C:World→Prop}{t:Fr}{w:World}{N:Act→World→Prop}(hi:ops[i]?=some o)(hw:Region.wanted o (yielded ops.toArray t.toArray)=false)
  (h:N ⟨(put t o.dst undef).toArray,[]⟩ w):mixOpN P ops.toArray C i N ⟨t.toArray,[]⟩ w:=by
 unfold mixOpN;simp only[List.getElem?_toArray,hi,hw,Bool.false_eq_true,if_false];rw[put_eq];exact h
theorem wpLex_of_vcMixN {ops:List Oper}{C:World→Prop}{R:Fr→World→Prop}{N:Act→World→Prop}(hn:∀t w,R t w→N ⟨t.toArray,[]⟩ w):∀(l:List Oper) (k:Nat) (t:Fr) (w:World),(∀j,l[j]?=ops[k+j]?) →
  vcMixN P ops C R l t w .mk→wpLexN P ops.toArray C N (List.range' k l.length) ⟨t.toArray,[]⟩ w
 | [],_,_,_,_,h=>hn _ _ h
 | o::r,k,t,w,hl,h=>by
  have h0:ops[k]?=some o:=by simpa using(hl 0).symm
  have ih:=fun t w=>wpLex_of_vcMixN (C:=C) hn r (k+1) t w (fun j=>by have:=hl (j+1);simpa[Nat.add_assoc,Nat.add_comm 1 j] using this);simp only[List.length_cons,List.range'_succ,wpLexN];simp only[vcMixN]at h;split at h
  ·rename_i hg;exact mixOp_of_mixKN h0 (by simp[Region.wanted,hg]) (fun v w' hk=>ih _ _ hk) h
  ·rename_i j want hg;rcases guard_cases hg h with ⟨hw,hh⟩|⟨hw,hh⟩
   ·exact mixOp_of_mixKN h0 hw (fun v w' hk=>ih _ _ hk) hh
   ·exact mixOp_skipN h0 hw (ih _ _ hh)
theorem wpL_drawN {id:Nat}{l:List Oper}{t:Fr}{w:World}{Q:EP}{p}(C:World→Prop)(hm:P.follows .mixedOrders=true)(hB:mixBN P l.toArray=true)(hC:C w.drew)
  (h:vcMixN P l C (Q .normal) l t w.drew .mk):wpL P (.region id l.toArray true) Q t w p:=by
 unfold wpL;simp only[mixBN,Bool.and_eq_true]at hB;refine wp_region_any hm (wpAny_of_mixN (C:=C) (R:=fun a w=>lift Q .normal a w) (fun _ _ h=>h) _ _ _ _ hC ?_);refine wpMix_lexN hB.1 _ 0 _ _ _ (by simp) hC (fun j o _ hl=>by simp[Array.getElem?_replicate]at hl;split at hl<;>simp at hl) hB.2 ?_
 have:=wpLex_of_vcMixN (P:=P) (ops:=l) (C:=C) (R:=Q .normal) (N:=fun a w=>lift Q .normal a w) (fun t w hk=>⟨rfl,by simpa using hk⟩) l 0 t w.drew (fun j=>by simp) h;simpa using this
variable {t:Fr} {w:World} {C:World→Prop} {K:VK} {R:Fr→World→Prop}
theorem vcMix_nilN (ops)(p):vcMixN P ops C R [] t w p=R t w:=(rfl)
theorem vcMix_plainN (ops)(d op ty pos af r)(p):vcMixN P ops C R (⟨d,op,ty,pos,af,none⟩::r) t w p=mixKN P ⟨d,op,ty,pos,af,none⟩ t w C (fun v w'=>vcMixN P ops C R r (put t d v) w' .mk) .mk:=(rfl)
theorem vcMix_guardN (ops)(d op ty pos af j want r)(p):vcMixN P ops C R (⟨d,op,ty,pos,af,some (j,want)⟩::r) t w p =
  guardK (slotOf ops j) want t (fun t'=>mixKN P ⟨d,op,ty,pos,af,some (j,want)⟩ t' w C (fun v w'=>vcMixN P ops C R r (put t' d v) w' .mk) .mk) (fun t'=>vcMixN P ops C R r (put t' d undef) w .mk) .mk:=rfl
theorem mixK_moveN (d x ty pos af g)(p):mixKN P ⟨d,.move x,ty,pos,af,g⟩ t w C K p=K (ev t x) w:=(rfl)
theorem mixK_assignN (d x ty pos af g)(p):mixKN P ⟨d,.assign x,ty,pos,af,g⟩ t w C K p=K (ev t x) w:=(rfl)
theorem mixK_pickN (d c a b ty pos af g)(p):mixKN P ⟨d,.pick c a b,ty,pos,af,g⟩ t w C K p=pickK (ev t c) (ev t a) (ev t b) (K · w) .mk:=(rfl)
theorem mixK_binN (d op xt x y yt ty pos af g)(p):mixKN P ⟨d,.binOp op xt x y yt,ty,pos,af,g⟩ t w C K p =
  binK op (ev t x) (ev t y) (K · w) (eqNilK (eqKind P xt) (isConst x || isConst y) op (ev t x) (ev t y) (K · w) False .mk) .mk:=rfl
theorem mixK_unN (d op xt x ty pos af g)(p):mixKN P ⟨d,.unOp op xt x,ty,pos,af,g⟩ t w C K p=unK op (ev t x) (K · w) False .mk:=(rfl)
theorem mixK_extractN (d x i ty pos af g)(p):mixKN P ⟨d,.extract x i,ty,pos,af,g⟩ t w C K p=extractK (ev t x) i (K · w) .mk:=(rfl)
def mixConvKN (P:Program)(d:Option TypeDesc)(o:Oper)(t:Fr)(w:World)(C:World→Prop)(K:VK)(_:Ph (o,C,K)):Prop :=
 match d with
 | some (.int _)=>pureK P o t (K · w) False .mk
 | _=>opK P o t w (fun v w'=>C w'∧K v w') noQ .mk
theorem mixK_convertN (d s e x ty pos af g)(p):mixKN P ⟨d,.convert s e x,ty,pos,af,g⟩ t w C K p=mixConvKN P (P.underlying e) ⟨d,.convert s e x,ty,pos,af,g⟩ t w C K .mk:=by
 cases h:P.underlying e with
 | none=>simp[mixKN,chainN,h,mixConvKN]
 | some d=>cases d<;>simp[mixKN,chainN,h,mixConvKN]
theorem mixConvK_intN (k d s e x ty pos af g)(p):mixConvKN P (some (.int k)) ⟨d,.convert s e x,ty,pos,af,g⟩ t w C K p=convK (if (P.underlying s).isSome then P.underlying e else none) (ev t x) (K · w) False .mk:=(rfl)
theorem mixConvK_strN (o)(p):mixConvKN P (some .string) o t w C K p=opK P o t w (fun v w'=>C w'∧K v w') noQ .mk:=(rfl)
theorem mixConvK_sliceN (e o)(p):mixConvKN P (some (.slice e)) o t w C K p=opK P o t w (fun v w'=>C w'∧K v w') noQ .mk:=(rfl)
theorem mixK_indexN (d xt x i ty pos af g)(p):mixKN P ⟨d,.index xt x i,ty,pos,af,g⟩ t w C K p=indexK (P.underlying xt) (ev t x) (ev t i) (K · w) False .mk:=(rfl)
theorem mixK_lenN (d x aty ty pos af g)(p):mixKN P ⟨d,.call { callee:=.builtin .len,args:=#[x],argTypes:=#[aty] },ty,pos,af,g⟩ t w C K p=lenK (P.underlying aty) (ev t x) (K · w) False .mk:=(rfl)
theorem mixK_loadN (d xt x ty pos af g)(p):mixKN P ⟨d,.load xt x,ty,pos,af,g⟩ t w C K p=loadK (tyK P xt) (ev t x) w (fun v w'=>(∀w'',C w''→loadK (tyK P xt) (ev t x) w'' (fun u _=>u=v) .mk)∧K v w') .mk:=(rfl)
theorem mixK_fieldAddrN (d xt x f ty pos af g)(p):mixKN P ⟨d,.fieldAddr xt x f,ty,pos,af,g⟩ t w C K p=fieldAddrK (fieldK P xt f) (ev t x) (K · w) .mk:=(rfl)
theorem mixK_fieldN (d xt x f ty pos af g)(p):mixKN P ⟨d,.field xt x f,ty,pos,af,g⟩ t w C K p=partK (fieldK P xt f) (ev t x) (K · w) .mk:=(rfl)
theorem mixK_indexAddrN (d xt x i ty pos af g)(p):mixKN P ⟨d,.indexAddr xt x i,ty,pos,af,g⟩ t w C K p=indexAddrK (elemK P xt) (arrK P xt) (ev t x) (ev t i) (K · w) .mk:=(rfl)
theorem mixK_sliceN (d xt x lo hi mx ty pos af g)(p):mixKN P ⟨d,.slice xt x lo hi mx,ty,pos,af,g⟩ t w C K p =
  sliceK (P.underlying xt) (elemK P xt) (ev t x) (lo.map (ev t)) (hi.map (ev t)) (mx.map (ev t)) (K · w) False .mk:=rfl
theorem mixK_callN (d f)(args:List Operand)(aty ty pos af g)(p):mixKN P ⟨d,.call { callee:=.value f,args:=args.toArray,argTypes:=aty },ty,pos,af,g⟩ t w C K p =
  opK P ⟨d,.call { callee:=.value f,args:=args.toArray,argTypes:=aty },ty,pos,af,g⟩ t w (fun v w'=>C w'∧K v w') noQ .mk:=rfl
theorem mixK_storeN (d xt x v ty pos af g)(p):mixKN P ⟨d,.store xt x v,ty,pos,af,g⟩ t w C K p=opK P ⟨d,.store xt x v,ty,pos,af,g⟩ t w (fun v w'=>C w'∧K v w') noQ .mk:=(rfl)
theorem mixK_boxN (d e x ty pos af g)(p):mixKN P ⟨d,.box e x,ty,pos,af,g⟩ t w C K p=opK P ⟨d,.box e x,ty,pos,af,g⟩ t w (fun v w'=>C w'∧K v w') noQ .mk:=(rfl)
theorem mixK_buildSliceN (d bt n ps ty pos af g)(p):mixKN P ⟨d,.buildSlice bt n ps,ty,pos,af,g⟩ t w C K p=opK P ⟨d,.buildSlice bt n ps,ty,pos,af,g⟩ t w (fun v w'=>C w'∧K v w') noQ .mk:=(rfl)
theorem mixK_buildN (d bt)(ps:List (Nat×Operand))(ty pos af g)(p):mixKN P ⟨d,.build bt ps.toArray,ty,pos,af,g⟩ t w C K p=buildK (bldI P bt) (evs t ps) (K · w) .mk:=(rfl)
theorem mixK_appendN (d)(args:Array Operand)(aty ty pos af g)(p):mixKN P ⟨d,.call { callee:=.builtin .append,args:=args,argTypes:=aty },ty,pos,af,g⟩ t w C K p =
  opK P ⟨d,.call { callee:=.builtin .append,args:=args,argTypes:=aty },ty,pos,af,g⟩ t w (fun v w'=>C w'∧K v w') noQ .mk:=rfl
theorem mixK_nilCheckN (d x ty pos af g)(p):mixKN P ⟨d,.nilCheck x,ty,pos,af,g⟩ t w C K p=nilK (ev t x) (K · w) False .mk:=(rfl)
theorem mixK_invokeN (d r m)(args:Array Operand)(aty ty pos af g)(p):mixKN P ⟨d,.call { callee:=.invoke r m,args:=args,argTypes:=aty },ty,pos,af,g⟩ t w C K p =
  opK P ⟨d,.call { callee:=.invoke r m,args:=args,argTypes:=aty },ty,pos,af,g⟩ t w (fun v w'=>C w'∧K v w') noQ .mk:=(rfl)
theorem mixK_allocN (d e ty pos af g)(p):mixKN P ⟨d,.alloc e,ty,pos,af,g⟩ t w C K p=opK P ⟨d,.alloc e,ty,pos,af,g⟩ t w (fun v w'=>C w'∧K v w') noQ .mk:=(rfl)
theorem mixK_ifaceN (d xt x ty pos af g)(p):mixKN P ⟨d,.makeInterface xt x,ty,pos,af,g⟩ t w C K p =
  ifaceK (if (P.underlying xt).isSome then eqKind P xt else 1) xt (ev t x) (K · w) False .mk:=(rfl)
theorem mixK_makeSliceN (d bt l c ty pos af g)(p):mixKN P ⟨d,.makeSlice bt l c,ty,pos,af,g⟩ t w C K p=opK P ⟨d,.makeSlice bt l c,ty,pos,af,g⟩ t w (fun v w'=>C w'∧K v w') noQ .mk:=(rfl)
theorem mixK_typeAssertN (d x xt at_ ok ty pos af g)(p):mixKN P ⟨d,.typeAssert x xt at_ ok,ty,pos,af,g⟩ t w C K p=opK P ⟨d,.typeAssert x xt at_ ok,ty,pos,af,g⟩ t w (fun v w'=>C w'∧K v w') noQ .mk:=(rfl)
theorem mixK_makeFuncN (d fn)(a c:List Operand)(ty pos af g)(p):mixKN P ⟨d,.makeFunc fn a.toArray c.toArray,ty,pos,af,g⟩ t w C K p=K (.func fn (a.map (ev t)).toArray (c.map (ev t)).toArray) w:=by
 simp[mixKN,pureK,chainN]
end
attribute [push_cast] vcMix_nilN vcMix_plainN vcMix_guardN mixK_moveN mixK_assignN mixK_pickN mixK_binN mixK_unN mixK_extractN mixK_convertN mixConvK_intN mixConvK_strN mixConvK_sliceN mixK_indexN mixK_lenN mixK_loadN mixK_fieldAddrN mixK_fieldN mixK_indexAddrN mixK_sliceN mixK_callN mixK_storeN mixK_boxN mixK_buildSliceN mixK_buildN mixK_appendN mixK_nilCheckN mixK_invokeN mixK_allocN mixK_ifaceN mixK_makeSliceN mixK_typeAssertN mixK_makeFuncN
attribute [irreducible] vcMixN
end Go.Vc
end
section
namespace Go.Vc
open Go.RowKit
section
variable {P:Program} {ops:Array Oper} {m:Nat} {E:List PanicEntry→World→Prop} {w:World}
def quietOp (P:Program)(ops:Array Oper)(w:World)(i:Nat)(K:Act→Prop)(a:Act):Prop :=
 match ops[i]? with
 | none=>K a
 | some o=>if Region.wanted o (yielded ops a.tmps) then ∃v,(execOp a.eval o).run P w=.ok (.value v) w∧K (a.put o.dst v) else K (a.put o.dst undef)
def boomOp (P:Program)(ops:Array Oper)(w:World)(m:Nat)(E:List PanicEntry→World→Prop)(a:Act):Prop :=
 a.defers=[]∧∃o,ops[m]?=some o∧Region.wanted o (yielded ops a.tmps)=true∧∃f args w',(execOp a.eval o).run P w=.ok (.enter f args) w'∧Calls P f args w' fun e w''=>∃c,e=.panicked c∧E c w''
def wpB (P:Program)(ops:Array Oper)(w:World)(m:Nat)(E:List PanicEntry→World→Prop):Nat→Array Bool→Act→Prop
 | 0,_,_=>False
 | n+1,listed,a=>Region.ready .any ops listed≠[]∧∀i∈Region.ready .any ops listed,if i=m then boomOp P ops w m E a else quietOp P ops w i (wpB P ops w m E n (listed.setIfInBounds i true)) a
theorem quietOp_mono {i:Nat}{K K':Act→Prop}{a:Act}(hk:∀a,K a→K' a)(h:quietOp P ops w i K a):quietOp P ops w i K' a:=by
 unfold quietOp at *;split
 ·rename_i ho;simp only[ho]at h;exact hk _ h
 ·rename_i o ho;simp only[ho]at h;split
  ·rename_i hw;simp only[hw,if_true]at h;obtain⟨v,h1,h2⟩:=h;exact⟨v,h1,hk _ h2⟩
  ·rename_i hw;simp only[hw]at h;exact hk _ h
theorem put_defers (a:Act)(d:Option Tmp)(v:Value):(a.put d v).defers=a.defers:=by cases d<;>rfl
theorem quietOp_swap {i j:Nat} {oi oj:Oper} {K:Act→Prop} {a:Act} (hi:ops[i]?=some oi) (hj:ops[j]?=some oj) (hap:oi.apart ops oj=true)
  (hsi:∀cs b,oi.op≠.select cs b) (hsj:∀cs b,oj.op≠.select cs b) (h:quietOp P ops w i (quietOp P ops w j K) a):quietOp P ops w j (quietOp P ops w i K) a:=by
 obtain⟨h1,h2,h3⟩:=Oper.apart_spec hap
 have ej:∀(b:Act) (v:Value),execOp (b.put oi.dst v).eval oj=execOp b.eval oj:=fun b v=>execOp_put oj hsj b oi.dst v h1
 have ei:∀(b:Act) (v:Value),execOp (b.put oj.dst v).eval oi=execOp b.eval oi:=fun b v=>execOp_put oi hsi b oj.dst v h3
 have wj:∀(b:Act) (v:Value),Region.wanted oj (yielded ops (b.put oi.dst v).tmps)=Region.wanted oj (yielded ops b.tmps):=fun b v=>wanted_put oj b oi.dst v h1
 have wi:∀(b:Act) (v:Value),Region.wanted oi (yielded ops (b.put oj.dst v).tmps)=Region.wanted oi (yielded ops b.tmps):=fun b v=>wanted_put oi b oj.dst v h3
 have cm:∀(b:Act) (v u:Value),(b.put oi.dst v).put oj.dst u=(b.put oj.dst u).put oi.dst v:=fun b v u=>Act.put_comm b v u h2
 unfold quietOp at h ⊢
 simp only[hi,hj,ej,ei,wj,wi]at h ⊢
 cases hwi:Region.wanted oi (yielded ops a.tmps)<;>cases hwj:Region.wanted oj (yielded ops a.tmps)<;>simp only[hwi,hwj,Bool.false_eq_true,if_true,if_false]at h ⊢
 ·rw[←cm];exact h
 ·obtain⟨v,hv,hk⟩:=h;exact⟨v,hv,by rw[←cm];exact hk⟩
 ·obtain⟨v,hv,hk⟩:=h;exact⟨v,hv,by rw[←cm];exact hk⟩
 ·obtain⟨v,hv,u,hu,hk⟩:=h;exact⟨u,hu,v,hv,by rw[←cm];exact hk⟩
theorem boomOp_swap {i:Nat}{oi om:Oper}{a:Act}(hi:ops[i]?=some oi)(hj:ops[m]?=some om)(hap:oi.apart ops om=true)(hsj:∀cs b,om.op≠.select cs b)(h:quietOp P ops w i (boomOp P ops w m E) a):boomOp P ops w m E a:=by
 obtain⟨h1,h2,h3⟩:=Oper.apart_spec hap;have key:∀v,boomOp P ops w m E (a.put oi.dst v)→boomOp P ops w m E a:=fun v ⟨hd,o,ho,hw,f,args,w',hr,hc⟩=>by
  rw[hj]at ho;cases ho;refine⟨by rw[←put_defers a oi.dst v];exact hd,om,hj,by rw[←wanted_put om a oi.dst v h1];exact hw,f,args,w',by rw[←execOp_put om hsj a oi.dst v h1];exact hr,hc⟩
 unfold quietOp at h;simp only[hi]at h;split at h
 ·obtain⟨v,_,hk⟩:=h;exact key v hk
 ·exact key _ h
theorem wpB_first {i:Nat} {oi:Oper} (hi:ops[i]?=some oi) (him:i≠m) (hsel:∀(j:Nat) (o:Oper) cs b,ops[j]?=some o→o.op≠.select cs b) :
  ∀(fuel:Nat) (listed:Array Bool) (a:Act),Shut ops listed →
   (∀j oj,ops[j]?=some oj→j≠i→listed.getD j true=false→((Region.before ops).getD j 0).testBit i=false→oi.apart ops oj=true) →
   i∈Region.ready .any ops listed→quietOp P ops w i (wpB P ops w m E fuel (listed.setIfInBounds i true)) a→wpB P ops w m E (fuel+1) listed a:=by
 intro fuel
 induction fuel with
 | zero =>
  intro listed a _ _ hr H
  exfalso
  unfold quietOp at H
  simp only[hi]at H
  split at H
  ·obtain⟨v,_,hk⟩:=H;exact hk
  ·exact H
 | succ fuel ih =>
  intro listed a hS hfree hr H
  refine⟨fun h=>(by rw[h]at hr;cases hr),fun j hj=>?_⟩
  by_cases hji:j=i
  ·subst hji;rw[if_neg him];exact H
  ·obtain⟨hjun,oj,hoj,hall⟩:=mem_ready.1 hj
   have hiun:listed.getD i false=false:=by
    have h0:=(mem_ready.1 hr).1
    rcases Nat.lt_or_ge i listed.size with h'|h'
    ·simp[h']at h0 ⊢;exact h0
    ·simp[Array.getElem?_eq_none h']
   have hnot:((Region.before ops).getD j 0).testBit i=false:=by
    cases hb:((Region.before ops).getD j 0).testBit i with
    | false=>rfl
    | true=>have:=hS.before j i oj hoj hall hb;rw[hiun]at this;cases this
   have hap:=hfree j oj hoj hji hjun hnot
   have h1:quietOp P ops w i (fun a=>if j=m then boomOp P ops w m E a else quietOp P ops w j (wpB P ops w m E fuel ((listed.setIfInBounds i true).setIfInBounds j true)) a) a :=
    quietOp_mono (fun a' hh=>hh.2 j (ready_mono hj hji)) H
   by_cases hjm:j=m
   ·subst hjm
    simp only[if_true]at h1 ⊢
    exact boomOp_swap hi hoj hap (fun cs b=>hsel j oj cs b hoj) h1
   ·simp only[if_neg hjm]at h1 ⊢
    have h2:=quietOp_swap hi hoj hap (fun cs b=>hsel i oi cs b hi) (fun cs b=>hsel j oj cs b hoj) h1
    refine quietOp_mono (fun a' h3=>ih (listed.setIfInBounds j true) a' (hS.set hj) ?_ (ready_mono hr (Ne.symm hji)) ?_) h2
    ·intro k ok hk hki hun hno
     refine hfree k ok hk hki ?_ hno
     by_cases hjk:j=k
     ·subst hjk;exact hjun
     ·rw[getD_set_ne true hjk]at hun;exact hun
    ·rw[Array.setIfInBounds_comm _ _ hji]
     exact h3
def quietFree (ops:Array Oper)(bf:Array Nat)(listed:Array Bool)(i:Nat):Bool :=
 match ops[i]? with
 | none=>false
 | some oi=>(List.range ops.size).all fun j=>j == i || listed.getD j true || match ops[j]? with
   | some oj=>(bf.getD j 0).testBit i || oi.apart ops oj
   | none=>true
theorem quietFree_spec {i:Nat}{oi:Oper}{listed:Array Bool}(hi:ops[i]?=some oi)(h:quietFree ops (Region.before ops) listed i=true)(j:Nat)(oj:Oper)
  (hj:ops[j]?=some oj) (hne:j≠i) (hun:listed.getD j true=false) (hno:((Region.before ops).getD j 0).testBit i=false):oi.apart ops oj=true:=by
 simp only[quietFree,hi,List.all_eq_true,List.mem_range]at h;have h1:=h j (Array.getElem?_eq_some_iff.1 hj).1;simp only[hj,Bool.or_eq_true,beq_iff_eq,hne,false_or,hun,Bool.false_eq_true,hno]at h1;exact h1
def boomFrom (P:Program)(ops:Array Oper)(bf:Array Nat):Nat→Nat→Array Bool→Bool
 | 0,k,listed=>Region.ready .any ops listed == [k]
 | n+1,k,listed=>(Region.ready .any ops listed).contains k && quietFree ops bf listed k && boomFrom P ops bf n (k+1) (listed.setIfInBounds k true)
def boomB (P:Program)(ops:Array Oper)(m:Nat):Bool:=Region.noSelect ops && decide (m<ops.size) && boomFrom P ops (Region.before ops) m 0 (Array.replicate ops.size false)
def boomLex (P:Program)(ops:Array Oper)(w:World)(m:Nat)(E:List PanicEntry→World→Prop):List Nat→Act→Prop
 | [],a=>boomOp P ops w m E a
 | i::r,a=>quietOp P ops w i (boomLex P ops w m E r) a
theorem wpB_lex (hs:Region.noSelect ops=true):∀(n k f:Nat) (listed:Array Bool) (a:Act),k+n=m→m<ops.size→n<f→Shut ops listed →
  boomFrom P ops (Region.before ops) n k listed=true→boomLex P ops w m E (List.range' k n) a→wpB P ops w m E f listed a
 | 0,k,f,listed,a,hk,hm,hf,hS,hB,h=>by
  obtain⟨f',rfl⟩:∃f',f=f'+1:=⟨f-1,by omega⟩;have hr:Region.ready .any ops listed=[k]:=by simpa[boomFrom] using hB
  have hkm:k=m:=by omega
  refine⟨by rw[hr];simp,fun i hi=>?_⟩;rw[hr]at hi;obtain rfl:=List.mem_singleton.1 hi;rw[if_pos hkm];exact h
 | n+1,k,f,listed,a,hk,hm,hf,hS,hB,h=>by
  obtain⟨f',rfl⟩:∃f',f=f'+1:=⟨f-1,by omega⟩;simp only[boomFrom,Bool.and_eq_true]at hB;obtain⟨⟨hr,hfree⟩,hB'⟩:=hB;have hlt:k<ops.size:=by omega
  have hr':k∈Region.ready .any ops listed:=by simpa using hr
  refine wpB_first (i:=k) (oi:=ops[k]) (by simp[hlt]) (by omega) (Region.noSelect_spec hs) f' listed a hS (quietFree_spec (by simp[hlt]) hfree) hr' ?_;simp only[List.range'_succ,boomLex]at h;exact quietOp_mono (fun a' hh=>wpB_lex hs n (k+1) f' _ a' (by omega) hm (by omega) (hS.set hr') hB' hh) h
theorem wpAny_of_boom {Q:Exit→Act→World→Prop}(hq:∀c a w',a.defers=[]→E c w'→Q (.panic c) a w'):∀(fuel:Nat) (listed:Array Bool) (a:Act),wpB P ops w m E fuel listed a→wpAny P .any ops Q fuel listed a w
 | 0,_,_,h=>h.elim
 | fuel+1,listed,a,h=>⟨fun h0=>absurd h0 h.1,fun i hi=>by
   have h1:=h.2 i hi;by_cases him:i=m
   ·subst him;rw[if_pos rfl]at h1;obtain⟨hd,o,ho,hw,f,args,w',hr,hc⟩:=h1;unfold wpOp;simp only[ho,hw,if_true];refine .inl ?_;unfold Oper.wp;rw[hr];unfold Oper.upon;exact hc.mono fun e w'' ⟨c,he,hE⟩=>by subst he;exact hq c a w'' hd hE
   ·rw[if_neg him]at h1;unfold quietOp at h1;unfold wpOp;split
    ·rename_i ho;simp only[ho]at h1;exact wpAny_of_boom hq fuel _ _ h1
    ·rename_i o ho;simp only[ho]at h1;split
     ·rename_i hw;simp only[hw,if_true]at h1;obtain⟨v,hv,hk⟩:=h1;refine .inl ?_;unfold Oper.wp;rw[hv];exact wpAny_of_boom hq fuel _ _ hk
     ·rename_i hw;simp only[hw]at h1;exact wpAny_of_boom hq fuel _ _ h1⟩
def callB (P:Program)(g:FuncId)(args:List Value)(w:World)(E:List PanicEntry→World→Prop)(_:Ph E):Prop:=(callFunc g args.toArray).run P w=.ok (.enter g args.toArray) w∧Calls P g args.toArray w fun e w''=>∃c,e=.panicked c∧E c w''
def boomK (P:Program)(o:Oper)(t:Fr)(w:World)(E:List PanicEntry→World→Prop)(_:Ph (o,E)):Prop:=match o.guard,o.op with
 | none,.call { callee:=.value f,args,argTypes:=_ }=>(match ev t f with
  | .func (.func g) first cap=>callB P g (first.toList++args.toList.map (ev t)++cap.toList) w E .mk
  | _=>False)
 | _,_=>False
def vcBoom (P:Program)(ops:List Oper)(E:List PanicEntry→World→Prop):List Unit→(l:List Oper)→Fr→World→Ph (ops,E,l)→Prop
 | [],o::_,t,w,_=>boomK P o t w E .mk
 | _::n,o::r,t,w,_=>chainN P o=false∧match o.guard with
  | none=>mixKN P o t w (·=w) (fun v _=>vcBoom P ops E n r (put t o.dst v) w .mk) .mk
  | some (j,want)=>guardK (slotOf ops j) want t (fun t'=>mixKN P o t' w (·=w) (fun v _=>vcBoom P ops E n r (put t' o.dst v) w .mk) .mk) (fun t'=>vcBoom P ops E n r (put t' o.dst undef) w .mk) .mk
 | _,[],_,_,_=>False
theorem callB_of {g:FuncId}{args:List Value}{R:VK}{E':List PanicEntry→World→Prop}{p}(h:Fun2 P g args w R E')(hR:∀v w',¬R v w')(k:∀c w',E' c w'→E c w'):callB P g args w E p :=
 ⟨h.1,h.2.mono fun e w' he=>by cases e<;>first|exact absurd he (hR _ _)|exact⟨_,rfl,k _ _ he⟩|exact he.elim⟩
theorem quietOp_of_mixKN {ops:List Oper}{i:Nat}{o:Oper}{t:Fr}{K:VK}{N:Act→Prop}(hi:ops[i]?=some o)(hw:Region.wanted o (yielded ops.toArray t.toArray)=true)(hc:chainN P o=false)
  (hn:∀v,K v w→N ⟨(put t o.dst v).toArray,[]⟩) (h:mixKN P o t w (·=w) K .mk):quietOp P ops.toArray w i N ⟨t.toArray,[]⟩:=by
 unfold quietOp;simp only[List.getElem?_toArray,hi,hw,if_true,ev_eq];unfold mixKN at h;split at h
 ·rename_i ty x ho;obtain⟨v,hr,_,hk⟩:=loadK_run ho h;exact⟨v,hr,by rw[put_eq];exact hn _ hk⟩
 ·rename_i x ho;unfold nilK at h;split at h
  ·rename_i a hx;refine⟨_,?_,by rw[put_eq];exact hn _ h⟩;unfold execOp;simp only[ho,hx];rfl
  ·exact h.elim
 ·simp only[hc,Bool.false_eq_true,if_false]at h;rcases pureK_ok h with h|⟨v,hg,hk⟩
  ·exact h.elim
  ·exact⟨v,hg w,by rw[put_eq];exact hn _ hk⟩
theorem boomOp_of {ops:List Oper}{m:Nat}{o:Oper}{t:Fr}(hi:ops[m]?=some o)(h:boomK P o t w E .mk):boomOp P ops.toArray w m E ⟨t.toArray,[]⟩:=by
 unfold boomK at h;split at h
 ·rename_i f args aty hg ho;split at h
  ·rename_i g first cap hf;refine⟨rfl,o,by simpa using hi,by simp[Region.wanted,hg],g,_,w,?_,h.2⟩;rw[ev_eq];unfold execOp;have e:(first.toList++args.toList.map (ev t)++cap.toList).toArray=first++args.map (ev t)++cap:=by apply Array.ext';simp
   have h1:=h.1;rw[e]at h1 ⊢;simp only[ho,resolve,hf,Deferred.ofValue,Sem.run_bind,Sem.run_pure,Result.andThen_ok,invoke];exact h1
  ·exact h.elim
 ·exact h.elim
theorem boomLex_of {ops:List Oper}{m:Nat}:∀(n:List Unit) (k:Nat) (l:List Oper) (t:Fr),k+n.length=m→(∀j,l[j]?=ops[k+j]?)→vcBoom P ops E n l t w .mk→boomLex P ops.toArray w m E (List.range' k n.length) ⟨t.toArray,[]⟩
 | [],k,[],t,hk,hl,h=>h.elim
 | [],k,o::r,t,hk,hl,h=>boomOp_of (by have:=hl 0;simpa[←hk] using this.symm) h
 | _::n,k,[],t,hk,hl,h=>h.elim
 | _::n,k,o::r,t,hk,hl,h=>by
  have h0:ops[k]?=some o:=by simpa using(hl 0).symm
  have ih:=fun t=>boomLex_of (m:=m) n (k+1) r t (by rw[List.length_cons]at hk;omega) (fun j=>by have:=hl (j+1);simpa[Nat.add_assoc,Nat.add_comm 1 j] using this);simp only[List.length_cons,List.range'_succ,boomLex];obtain⟨hc,h⟩:=h;split at h
  ·rename_i hg;exact quietOp_of_mixKN h0 (by simp[Region.wanted,hg]) hc (fun v hk=>ih _ hk) h
  ·rename_i j want hg;rcases guard_cases hg h with ⟨hw,hh⟩|⟨hw,hh⟩
   ·exact quietOp_of_mixKN h0 hw hc (fun v hk=>ih _ hk) hh
   ·unfold quietOp;simp only[List.getElem?_toArray,h0,hw,Bool.false_eq_true,if_false];rw[put_eq];exact ih _ hh
theorem wpL_boom {id:Nat}{l:List Oper}{t:Fr}{Q:EP}{p}(m:List Unit)(hm:P.follows .mixedOrders=true)(hB:boomB P l.toArray m.length=true)(hq:∀c t w',E c w'→Q (.panic c) t w')
  (h:vcBoom P l E m l t w.drew .mk):wpL P (.region id l.toArray true) Q t w p:=by
 unfold wpL;simp only[boomB,Bool.and_eq_true,decide_eq_true_eq]at hB;refine wp_region_any hm ?_;refine wpAny_of_boom (E:=E) (m:=m.length) (fun c a w' hd hE=>⟨hd,hq c _ w' hE⟩) _ _ _ ?_;exact wpB_lex hB.1.1 m.length 0 _ _ _ (by omega) hB.1.2 hB.1.2 (fun j o _ hl=>by simp[Array.getElem?_replicate]at hl;split at hl<;>simp at hl) hB.2 (boomLex_of m 0 l t (by omega) (fun j=>by simp) h)
theorem vcBoom_zero (ops)(o:Oper)(r)(p)(t:Fr):vcBoom P ops E [] (o::r) t w p=boomK P o t w E .mk:=(rfl)
theorem vcBoom_plain (ops)(u:Unit)(n)(d op ty pos af r)(p)(t:Fr):vcBoom P ops E (u::n) (⟨d,op,ty,pos,af,none⟩::r) t w p=(chainN P ⟨d,op,ty,pos,af,none⟩=false∧mixKN P ⟨d,op,ty,pos,af,none⟩ t w (·=w) (fun v _=>vcBoom P ops E n r (put t d v) w .mk) .mk):=(rfl)
def funB (P:Program)(f:Value)(args:List Value)(w:World)(E:List PanicEntry→World→Prop)(_:Ph E):Prop:=match f with
 | .func (.func g) first cap=>callB P g (first.toList++args++cap.toList) w E .mk
 | _=>False
theorem boomK_call (d f)(args:List Operand)(aty ty pos af)(p)(t:Fr):boomK P ⟨d,.call { callee:=.value f,args:=args.toArray,argTypes:=aty },ty,pos,af,none⟩ t w E p=funB P (ev t f) (args.map (ev t)) w E .mk:=(rfl)
theorem funB_func (g:FuncId)(args:List Value)(p):funB P (.func (.func g) #[] #[]) args w E p=callB P g args w E .mk:=by
 show callB P g (#[].toList++args++#[].toList) w E .mk=_
 simp
end
section
variable {P:Program}
theorem ch_move (d x ty pos af g):chainN P ⟨d,.move x,ty,pos,af,g⟩=false:=(rfl)
theorem ch_assign (d x ty pos af g):chainN P ⟨d,.assign x,ty,pos,af,g⟩=false:=(rfl)
theorem ch_nil (d x ty pos af g):chainN P ⟨d,.nilCheck x,ty,pos,af,g⟩=false:=(rfl)
theorem ch_load (d t x ty pos af g):chainN P ⟨d,.load t x,ty,pos,af,g⟩=false:=(rfl)
theorem ch_fieldAddr (d t x f ty pos af g):chainN P ⟨d,.fieldAddr t x f,ty,pos,af,g⟩=false:=(rfl)
end
attribute [push_cast] boomK_call funB_func vcBoom_zero vcBoom_plain ch_move ch_assign ch_nil ch_load ch_fieldAddr
end Go.Vc
end
section
namespace Go.Proofs.YtledlfbbebodgaaGreatDoor
open Go.Vc Go.Proofs Go.RowKit Cae
attribute [local irreducible] wpL callK valK unitK runK Fun Sl Vc.Own vc vcOps opK pureK
theorem und_wrong:(Tryz.prog.underlying 126).isSome=true:=by kernel_rfl
attribute [push_cast] und_wrong
def encTok (t:Tok):List Value:=[.int .i64 t.kind,str t.text,.int .i64 t.pos]
structure TL (l:List Tok):Prop where
 last:∃i e,l=i++[e]∧e.kind=5
 txt:∀t∈l,t.text.length≤1000000
 len:l.length≤900
 num:∀t∈l,t.kind=2→t.text≠[]∧∀c∈t.text,digitP c=true
theorem TL.cons {l:List Tok}(h:TL l):∃t r,l=t::r:=by
 obtain⟨i,e,rfl,_⟩:=h.last;cases i with
 | nil=>exact⟨e,[],rfl⟩
 | cons x i=>exact⟨x,i++[e],rfl⟩
theorem TL.tail {t:Tok}{r:List Tok}(h:TL (t::r))(h5:t.kind≠5):TL r:=by
 obtain⟨i,e,he,h5'⟩:=h.last;refine⟨?_,fun x hx=>h.txt x (List.mem_cons_of_mem _ hx),by have:=h.len;rw[List.length_cons]at this;omega,fun x hx=>h.num x (List.mem_cons_of_mem _ hx)⟩;cases i with
 | nil=>simp at he;rw[he.1]at h5;exact absurd h5' h5
 | cons x i=>simp at he;exact⟨i,e,he.2,h5'⟩
structure PS (pb B:Nat)(w:World)(l:List Tok):Prop where
 st:∃v,Blk w pb 133 [v]∧Sl (fun b=>b=pb∨B≤b) 3 (En encTok) w v l
 lt:pb<B
 le:B≤w.heap.size
 tl:TL l
 db:Db w
 er:SErrs w
 gl:11≤pb
theorem SErrs.kept {X:Nat→Prop}{w w':World}(h:SErrs w)(hb:Kept X w w')(hX:∀i,i<11→¬X i):SErrs w':=by
 obtain⟨⟨t,p,h1⟩,⟨t',p',h2⟩⟩:=h;exact⟨⟨t,p,hb.cell h1 (hX _ (by decide))⟩,⟨t',p',hb.cell h2 (hX _ (by decide))⟩⟩
theorem Db.kept {X:Nat→Prop}{w w':World}(h:Db w)(hb:Kept X w w')(hX:∀i,i<11→¬X i):Db w':=hb.cell h (hX _ (by decide))
theorem PS.kept {pb B:Nat}{w w':World}{l:List Tok}{Y:Nat→Prop}(h:PS pb B w l)(hk:Kept Y w w')(hY:∀i,Y i→B≤i):PS pb B w' l:=by
 obtain⟨v,h1,h2⟩:=h.st;have hl:=h.lt;have hg:=h.gl;exact⟨⟨v,h1.kept hk (fun hh=>by have:=hY _ hh;omega),h2.kept hk (fun i hi=>.inr (hY i hi))⟩,h.lt,Nat.le_trans h.le hk.size,h.tl,h.db.kept hk (fun i hi hh=>by have:=hY _ hh;omega),h.er.kept hk (fun i hi hh=>by have:=hY _ hh;omega),h.gl⟩
theorem PS.below {pb B:Nat}{w w':World}{l:List Tok}(h:PS pb B w l)(hk:Below w.heap.size w w'):PS pb B w' l :=
 h.kept (Kept.of_below hk (X:=fun i=>w.heap.size≤i) (fun i h1 h2=>h1)) (fun i hi=>Nat.le_trans h.le hi)
theorem PS.hd {pb B:Nat}{w:World}{t:Tok}{r:List Tok}(h:PS pb B w (t::r)):∃b o c,Blk w pb 133 [.slice (some ⟨b,o,none⟩) (r.length+1) c]∧r.length+1≤c∧b≠pb ∧
  w.cell? ⟨b,o,none⟩=some (.int .i64 t.kind)∧w.cell? ⟨b,o+1,none⟩=some (str t.text)∧w.cell? ⟨b,o+2,none⟩=some (.int .i64 t.pos)∧cellsAt w ⟨b,o,none⟩ 0 3=some [.int .i64 t.kind,str t.text,.int .i64 t.pos]:=by
 obtain⟨v,h1,h2⟩:=h.st;obtain⟨a,c,rfl,hc⟩:=h2.shape;obtain⟨b,o,rfl,hb,hcell⟩:=h2.get (i:=0) (x:=t) rfl;refine⟨b,o,c,h1,hc,fun e=>hb (.inl e),?_,?_,?_,cellsAt_of (encTok t) 0 (fun j u hu=>by have:=hcell j u hu;simpa using this)⟩
 ·have:=hcell 0 _ rfl;simpa using this
 ·have:=hcell 1 _ rfl;simpa using this
 ·have:=hcell 2 _ rfl;simpa using this
theorem PS.pop {pb B b o c:Nat}{w w':World}{t:Tok}{r:List Tok}(h:PS pb B w (t::r))(hb:Blk w pb 133 [.slice (some ⟨b,o,none⟩) (r.length+1) c])(h5:t.kind≠5)
  (hp:Put w w' pb 133 [.slice (if (c:Int)=1 then some ⟨b,o,none⟩ else some ⟨b,o+3,none⟩) r.length (c-1)]):PS pb B w' r:=by
 have hl:=h.lt;have hg:=h.gl;have htl:=h.tl.tail h5;obtain⟨t2,r2,rfl⟩:=htl.cons;obtain⟨v,h1,h2⟩:=h.st;have e:v=.slice (some ⟨b,o,none⟩) ((t2::r2).length+1) c:=by
  have h1':w.heap[pb]?=_:=h1;have hb':w.heap[pb]?=_:=hb;rw[h1']at hb';simpa using hb'
 subst e;have hk:=hp.kept;have hc:(t2::r2).length+1≤c:=by
  obtain⟨a,c',he,hc⟩:=h2.shape;cases he;exact hc
 have hc1:¬(c:Int)=1:=by rw[List.length_cons]at hc;omega
 have hpb:=hp.blk;rw[if_neg hc1]at hpb;refine⟨⟨_,hpb,?_⟩,h.lt,by rw[hp.size];exact h.le,htl,h.db.kept hk (fun i hi hh=>by omega),h.er.kept hk (fun i hi hh=>by omega),h.gl⟩;unfold Sl at h2 ⊢;obtain⟨a,c',he,hc',hall⟩:=h2;cases he;refine⟨some ⟨b,o+3,none⟩,c-1,rfl,by omega,fun i x hx=>?_⟩;obtain⟨b',o',cs,ha,hX,hcs,hcell,hr⟩:=hall (i+1) x (by simpa using hx);cases ha
 refine⟨b,o+3,cs,rfl,hX,hcs,fun j u hu=>?_,hr⟩;have:=hcell j u hu;rw[show o+(i+1)*3+j=o+3+i*3+j by omega]at this;exact hk.cell this (fun hh=>hX (.inl hh))
theorem slice1 {e e':TypeId}{b o n c:Nat}{kk:IntKind}{L:VP}{other:Prop}(p):sliceK (some (.slice e)) (some (e',3)) (.slice (some ⟨b,o,none⟩) (n+1) c) (some (.int kk 1)) none none L other p=((1≤n+1∧n+1≤c)∧L (.slice (if (c:Int)=1 then some ⟨b,o,none⟩ else some ⟨b,o+3,none⟩) n (c-1))):=by
 simp only[sliceK,natAt,add_lit,Option.map_some];apply propext;constructor
 ·rintro⟨h1,h2⟩;refine⟨by omega,?_⟩;have e1:((n+1:Nat):Int).toNat-(1:Int).toNat=n:=by omega
  have e2:c-(1:Int).toNat=c-1:=by omega
  rw[e1,e2]at h2;exact h2
 ·rintro⟨h1,h2⟩;refine⟨by omega,?_⟩;have e1:((n+1:Nat):Int).toNat-(1:Int).toNat=n:=by omega
  have e2:c-(1:Int).toNat=c-1:=by omega
  rw[e1,e2];exact h2
def Thr (sz:Nat)(w:World)(c:List PanicEntry)(e pos:Nat):Prop:=∃b,sz≤b∧c=[{ v:=.iface 126 (.agg #[.iface 92 (.pointer (some ⟨b,0,none⟩))]),recovered:=false }]∧Blk w b 94 [.int .i64 e,.int .i64 pos]
theorem Thr.mono {sz sz':Nat}{w:World}{c:List PanicEntry}{e pos:Nat}(h:Thr sz w c e pos)(hs:sz'≤sz):Thr sz' w c e pos:=by
 obtain⟨b,h1,h2,h3⟩:=h;exact⟨b,by omega,h2,h3⟩
def PRes {α:Type}(pb B:Nat)(w:World)(l:List Tok)(p:Pa α)(V:World→Value→α→Prop):VK:=fun r w'=>∃x l',p l=.ok (x,l')∧V w' r x∧PS pb B w' l'∧Kept (·=pb) w w'
def PThr {α:Type}(pb:Nat)(w:World)(l:List Tok)(p:Pa α):List PanicEntry→World→Prop:=fun c w'=>∃e pos,p l=.error (e,pos)∧Thr w.heap.size w' c e pos∧Kept (·=pb) w w'
def Pc {α:Type}(f:FuncId)(args:List Value)(pb B:Nat)(w:World)(l:List Tok)(p:Pa α)(V:World→Value→α→Prop):Prop:=Fun2 Tryz.prog f args w (PRes pb B w l p V) (PThr pb w l p)
theorem fail_c (e:Nat){pb B:Nat}{w:World}{l:List Tok}(h:PS pb B w l):Fun2 Tryz.prog 58 [.pointer (some ⟨pb,0,none⟩),.int .i64 (e:Int)] w (fun _ _=>False) (fun c w'=>Thr w.heap.size w' c e (Cae.hd l).pos∧Below w.heap.size w w'):=by
 obtain⟨t,r,rfl⟩:=h.tl.cons;obtain⟨b,o,c,hB,hc,hne,c0,c1,c2,c3⟩:=h.hd;have cb:w.cell? ⟨pb,0,none⟩=some (.slice (some ⟨b,o,none⟩) (r.length+1) c):=hB.cell rfl;refine fun2_of_vc Tryz.func58 rfl (by kernel_rfl) [] rfl ?_;push_cast -dsimp(maxSteps:=4000000) [Tryz.ntmps58];push_cast -dsimp[cb,c2];refine⟨by omega,boxK_of ?_⟩;intro w' hw'
 have hB2:Blk w' w.heap.size 94 [.int .i64 e,.int .i64 t.pos]:=hw'.blk;have hbb:=hw'.below;push_cast -dsimp;refine panicK ?_;push_cast -dsimp;exact⟨⟨_,Nat.le_refl _,rfl,hB2⟩,hbb⟩
theorem see_c (s:List UInt8){pb B:Nat}{w:World}{l:List Tok}(h:PS pb B w l):Fun Tryz.prog 94 [.pointer (some ⟨pb,0,none⟩),str s] w fun r w'=>r=.bool (seeP s l)∧w'=w:=by
 obtain⟨t,r,rfl⟩:=h.tl.cons;obtain⟨b,o,c,hB,hc,hne,c0,c1,c2,c3⟩:=h.hd;have cb:w.cell? ⟨pb,0,none⟩=some (.slice (some ⟨b,o,none⟩) (r.length+1) c):=hB.cell rfl;have hs:seeP s (t::r)=(t.kind != 5 && t.text == s):=rfl;refine fun_of_vc Tryz.func94 rfl (by kernel_rfl) [4] rfl ?_;push_cast -dsimp(maxSteps:=4000000) [Tryz.ntmps94];push_cast -dsimp[cb,c0,c1]
 refine⟨by omega,fun h5=>⟨by omega,?_⟩,fun h5=>?_⟩
 ·rw[hs];have h5':t.kind≠5:=fun e=>h5 (by omega);congr 1;by_cases he:t.text=s<;>simp[he,h5']
 ·rw[hs];have h5':t.kind=5:=by omega
  simp[h5']
theorem popP_cons {t:Tok}{r:List Tok}(h:t.kind≠5):popP (t::r)=.ok ((),r):=by simp[popP,h]
theorem seeP_kind {s:List UInt8}{t:Tok}{r:List Tok}(h:seeP s (t::r)=true):t.kind≠5:=by
 have:(t.kind != 5 && t.text == s)=true:=h;simp at this;exact this.1
def Took (s:List UInt8)(pb B:Nat)(w:World)(l:List Tok):VK:=fun r w'=>(seeP s l=true∧r=.bool true∧∃t r',l=t::r'∧t.kind≠5∧PS pb B w' r'∧Kept (·=pb) w w'∧w'.heap.size=w.heap.size)∨(seeP s l=false∧r=.bool false∧w'=w)
theorem take_c (s:List UInt8){pb B:Nat}{w:World}{l:List Tok}(h:PS pb B w l):Fun Tryz.prog 98 [.pointer (some ⟨pb,0,none⟩),str s] w (Took s pb B w l):=by
 obtain⟨t,r,rfl⟩:=h.tl.cons;obtain⟨b,o,c,hB,hc,hne,c0,c1,c2,c3⟩:=h.hd;have cb:w.cell? ⟨pb,0,none⟩=some (.slice (some ⟨b,o,none⟩) (r.length+1) c):=hB.cell rfl;refine fun_of_vc Tryz.func98 rfl (by kernel_rfl) [4] rfl ?_;push_cast -dsimp(maxSteps:=4000000) [Tryz.ntmps98];refine callK_of (see_c s h) ?_;rintro _ _ ⟨rfl,rfl⟩;cases hs:seeP s (t::r) with
 | false =>
  push_cast -dsimp;exact .inr ⟨hs,rfl,rfl⟩
 | true =>
  have h5:=seeP_kind hs;push_cast -dsimp[cb,slice1];refine⟨by omega,?_⟩;refine storeK_of hB (by simp) rfl ?_;intro w' hw';have hps:=h.pop hB h5 hw';have hk:=hw'.kept;have hz:=hw'.size;push_cast -dsimp;exact .inl ⟨hs,rfl,t,r,rfl,h5,hps,hk,hz⟩
theorem must_c (s:List UInt8){pb B:Nat}{w:World}{l:List Tok}(h:PS pb B w l):Pc 95 [.pointer (some ⟨pb,0,none⟩),str s] pb B w l (mustP s) (fun _ r _=>r=.tuple #[]):=by
 refine fun2_of_vc Tryz.func95 rfl (by kernel_rfl) [] rfl ?_;push_cast -dsimp(maxSteps:=4000000) [Tryz.ntmps95];refine callK_of (take_c s h) ?_;rintro _ w1 hT;rcases hT with ⟨hs,rfl,t,r,rfl,h5,hps,hk,hz⟩|⟨hs,rfl,rfl⟩
 ·push_cast -dsimp;exact⟨(),r,by unfold mustP pif;rw[hs];exact popP_cons h5,rfl,hps,hk⟩
 ·push_cast -dsimp;refine callP_of (fail_c 3 h) (fun _ _ h=>h.elim) ?_;rintro c w2 ⟨ht,hb⟩;push_cast -dsimp;exact⟨3,_,by unfold mustP pif;rw[hs];rfl,ht,Kept.of_below hb (fun i h1 h2=>by omega)⟩
theorem deep_c (n:Int){pb B:Nat}{w:World}{l:List Tok}(h:PS pb B w l):Fun2 Tryz.prog 133 [.pointer (some ⟨pb,0,none⟩),.int .i64 n] w (fun r w'=>n≤8∧r=.tuple #[]∧w'=w) (fun c w'=>8<n∧Thr w.heap.size w' c 4 (Cae.hd l).pos∧Below w.heap.size w w'):=by
 refine fun2_of_vc Tryz.func133 rfl (by kernel_rfl) [] rfl ?_;push_cast -dsimp(maxSteps:=4000000) [Tryz.ntmps133];refine⟨fun h8=>?_,fun h8=>by omega⟩;refine callP_of (fail_c 4 h) (fun _ _ h=>h.elim) ?_;rintro c w2 ⟨ht,hb⟩;push_cast -dsimp;exact⟨h8,ht,hb⟩
def keptL:List (List UInt8×Value):=[([99,108,97,115,115],.int .i64 1),([98,114,101,97,107],.int .i64 1),([107,101,101,112],.int .i64 1),([101,108,115,101],.int .i64 1)]
theorem kept_c (s:List UInt8)(w:World):Fun Tryz.prog 159 [str s] w fun r w'=>r=.bool (keptP s)∧Below w.heap.size w w':=by
 refine fun_of_vc Tryz.func159 rfl (by kernel_rfl) [2] rfl ?_;push_cast -dsimp(maxSteps:=4000000) [Tryz.ntmps159];refine makeMapG (key:=fun l:List UInt8=>str l) ?_;intro w1 m1 b1 z1;push_cast -dsimp;refine updateG_new (kt:=9) (et:=3) (k:=[99,108,97,115,115]) (by kernel_rfl) (keyStr (by kernel_rfl)) m1 rfl rfl ?_;intro w2 m2 k2 z2;push_cast -dsimp
 refine updateG_new (kt:=9) (et:=3) (k:=[98,114,101,97,107]) (by kernel_rfl) (keyStr (by kernel_rfl)) m2 rfl (by decide) ?_;intro w3 m3 k3 z3;push_cast -dsimp;refine updateG_new (kt:=9) (et:=3) (k:=[107,101,101,112]) (by kernel_rfl) (keyStr (by kernel_rfl)) m3 rfl (by decide) ?_;intro w4 m4 k4 z4;push_cast -dsimp
 refine updateG_new (kt:=9) (et:=3) (k:=[101,108,115,101]) (by kernel_rfl) (keyStr (by kernel_rfl)) m4 rfl (by decide) ?_;intro w5 m5 k5 z5;have m6:MapG (fun l:List UInt8=>str l) w5 w.heap.size keptL:=m5;have hb:Below w.heap.size w w5:=b1.trans ((((k2.trans k3 (fun _ _ h=>h)).trans k4 (fun _ _ h=>h)).trans k5 (fun _ _ h=>h)).below (by omega) (fun i h=>by omega));push_cast -dsimp
 refine lookupG (kt:=9) (et:=3) (z:=.int .i64 0) (c:=false) (k:=s) (by kernel_rfl) (keyStr (by kernel_rfl)) (by kernel_rfl) m6 ?_;cases hk:keptP s with
 | true =>
  have ha:(assocG s keptL).getD (.int .i64 0)=.int .i64 1:=by
   simp only[keptP,Bool.or_eq_true,beq_iff_eq]at hk;rcases hk with ((rfl|rfl)|rfl)|rfl<;>rfl
  rw[if_neg (by decide),ha];push_cast -dsimp;exact hb
 | false =>
  have ha:(assocG s keptL).getD (.int .i64 0)=.int .i64 0:=by
   simp only[keptP,Bool.or_eq_false_iff,beq_eq_false_iff_ne]at hk;simp[keptL,assocG,hk.1.1.1,hk.1.1.2,hk.1.2,hk.2]
  rw[if_neg (by decide),ha];push_cast -dsimp;exact⟨rfl,hb⟩
theorem named_c {pb B:Nat}{w:World}{l:List Tok}(h:PS pb B w l):Fun Tryz.prog 131 [.pointer (some ⟨pb,0,none⟩)] w fun r w'=>r=.bool (namedP l)∧Below w.heap.size w w':=by
 obtain⟨t,r,rfl⟩:=h.tl.cons;obtain⟨b,o,c,hB,hc,hne,c0,c1,c2,c3⟩:=h.hd;have cb:w.cell? ⟨pb,0,none⟩=some (.slice (some ⟨b,o,none⟩) (r.length+1) c):=hB.cell rfl;have hs:namedP (t::r)=(t.kind == 1 && !keptP t.text):=rfl;refine fun_of_vc Tryz.func131 rfl (by kernel_rfl) [2] rfl ?_;push_cast -dsimp(maxSteps:=4000000) [Tryz.ntmps131];push_cast -dsimp[cb,c0,c1]
 refine⟨by omega,fun h5=>⟨by omega,?_⟩,fun h5=>?_⟩
 ·refine callK_of (kept_c t.text w) ?_;rintro _ w1 ⟨rfl,hb⟩;have h5':t.kind=1:=by omega
  push_cast -dsimp;exact⟨by rw[hs,h5'];rfl,hb⟩
 ·have h5':t.kind≠1:=fun e=>h5 (by omega);exact⟨by rw[hs];simp[h5'],Below.refl _ _⟩
theorem name_c {pb B:Nat}{w:World}{l:List Tok}(h:PS pb B w l):Pc 96 [.pointer (some ⟨pb,0,none⟩)] pb B w l nameP (fun _ r n=>r=str n):=by
 obtain⟨t,r,rfl⟩:=h.tl.cons;obtain⟨b,o,c,hB,hc,hne,c0,c1,c2,c3⟩:=h.hd;have cb:w.cell? ⟨pb,0,none⟩=some (.slice (some ⟨b,o,none⟩) (r.length+1) c):=hB.cell rfl;have hn:namedP (t::r)=(t.kind == 1 && !keptP t.text):=rfl;refine fun2_of_vc Tryz.func96 rfl (by kernel_rfl) [.tmp 2] rfl ?_;push_cast -dsimp(maxSteps:=4000000) [Tryz.ntmps96];push_cast -dsimp[cb,Nat.zero_mul,Nat.add_zero,c3]
 refine⟨by omega,?_⟩;refine allocK (z:=[.int .i64 0,str [],.int .i64 0]) (by kernel_rfl) ?_;intro w1 hw1;have B1:=hw1.blk;have P1:=h.below hw1.below;have z1:=hw1.size;have b1:=hw1.below;push_cast -dsimp;refine storeAgg (xt:=136) (n:=3) (by kernel_rfl) B1 rfl (by decide) (by simp;exact⟨rfl,rfl,rfl⟩) ?_;intro w2 hw2
 have B2:Blk w2 w.heap.size 136 [.int .i64 t.kind,str t.text,.int .i64 t.pos]:=hw2.blk;have P2:=P1.kept hw2.kept (fun i hi=>by have:=h.le;omega);have z2:=hw2.size;have b2:=b1.trans (hw2.kept.below (B:=w.heap.size) (by omega) (fun i h=>by omega));push_cast -dsimp;refine callK_of (named_c P2) ?_;rintro _ w3 ⟨rfl,b3⟩;have P3:=P2.below b3;have B3:=B2.below b3 (by omega)
 have b13:Below w.heap.size w w3:=b2.trans (b3.mono (by omega));have k13:Kept (·=pb) w w3:=Kept.of_below b13 (fun i h1 h2=>by omega);cases hnm:namedP (t::r) with
 | false =>
  push_cast -dsimp;refine callP_of (fail_c 3 P3) (fun _ _ h=>h.elim) ?_;rintro c w4 ⟨ht,hb⟩;push_cast -dsimp;have hz3:=b3.size;exact⟨3,_,by unfold nameP pif;rw[hnm];rfl,ht.mono (by omega),k13.trans (Kept.of_below hb (X:=(·=pb)) (fun i h1 h2=>by omega)) (fun i _ h=>h)⟩
 | true =>
  have d1:w3.cell? ⟨w.heap.size,1,none⟩=some (str t.text):=B3.cell rfl;push_cast -dsimp[d1];refine⟨fun hlong=>?_,fun hshort=>?_⟩
  ·refine callP_of (fail_c 4 P3) (fun _ _ h=>h.elim) ?_;rintro c w4 ⟨ht,hb⟩;push_cast -dsimp;have hz3:=b3.size;have hl:longP (t::r)=true:=decide_eq_true (show 10<t.text.length by omega);exact⟨4,_,by unfold nameP pif;rw[hnm,hl];rfl,ht.mono (by omega),k13.trans (Kept.of_below hb (X:=(·=pb)) (fun i h1 h2=>by omega)) (fun i _ h=>h)⟩
  ·have hl:longP (t::r)=false:=decide_eq_false (show ¬10<t.text.length by omega);have h5:t.kind≠5:=by
    rw[hn]at hnm;simp at hnm;omega
   have hB3:=hB.kept (Kept.of_below b13 (X:=fun i=>w.heap.size≤i) (fun i h1 h2=>h1)) (by have:=h.lt;have:=h.le;omega);have cb3:w3.cell? ⟨pb,0,none⟩=some (.slice (some ⟨b,o,none⟩) (r.length+1) c):=hB3.cell rfl;push_cast -dsimp[cb3,slice1];refine⟨by omega,?_⟩;refine storeK_of hB3 (by simp) rfl ?_;intro w4 hw4;have P4:=P3.pop hB3 h5 hw4;have B4:=B3.kept hw4.kept (by have:=h.lt;have:=h.le;omega)
   have d4:w4.cell? ⟨w.heap.size,1,none⟩=some (str t.text):=B4.cell rfl;have k4:=k13.trans hw4.kept (fun i _ h=>h);push_cast -dsimp[d4];exact⟨t.text,r,by simp[nameP,pif,hnm,hl,Cae.pb,peek,popP,pr,h5,Cae.hd],rfl,P4,k4⟩
def KindV (X:Nat→Prop)(w:World):Value→KindP→Prop
 | v,.lit pos s=>∃b sv,v=.pointer (some ⟨b,0,none⟩)∧¬X b∧Blk w b 48 [.int .i64 1,.int .i64 pos,sv,str [],.pointer none,.pointer none]∧Sl X 2 (En encR) w sv s∧Arg sv
 | v,.ref pos n=>∃b,v=.pointer (some ⟨b,0,none⟩)∧¬X b∧Blk w b 48 [.int .i64 2,.int .i64 pos,.slice none 0 0,str n,.pointer none,.pointer none]
 | v,.not pos k=>∃b u,v=.pointer (some ⟨b,0,none⟩)∧¬X b∧Blk w b 48 [.int .i64 6,.int .i64 pos,.slice none 0 0,str [],u,.pointer none]∧KindV X w u k
 | v,.bin c pos k r=>∃b u x,v=.pointer (some ⟨b,0,none⟩)∧¬X b∧Blk w b 48 [.int .i64 c,.int .i64 pos,.slice none 0 0,str [],u,x]∧KindV X w u k∧KindV X w x r
theorem KindV.mono {X X' Y:Nat→Prop}{w w':World}(hk:Kept Y w w')(hY:∀i,Y i→X i)(hX:∀i,X' i→X i):∀{k:KindP} {v:Value},KindV X w v k→KindV X' w' v k
 | .lit pos s,v,⟨b,sv,hv,hb,hB,hs,ha⟩=>⟨b,sv,hv,fun hh=>hb (hX b hh),hB.kept hk (fun hh=>hb (hY b hh)),(hs.kept hk hY).weaken hX,ha⟩
 | .ref pos n,v,⟨b,hv,hb,hB⟩=>⟨b,hv,fun hh=>hb (hX b hh),hB.kept hk (fun hh=>hb (hY b hh))⟩
 | .not pos k,v,⟨b,u,hv,hb,hB,h⟩=>⟨b,u,hv,fun hh=>hb (hX b hh),hB.kept hk (fun hh=>hb (hY b hh)),h.mono hk hY hX⟩
 | .bin c pos k r,v,⟨b,u,x,hv,hb,hB,h,h'⟩=>⟨b,u,x,hv,fun hh=>hb (hX b hh),hB.kept hk (fun hh=>hb (hY b hh)),h.mono hk hY hX,h'.mono hk hY hX⟩
theorem KindV.below {X:Nat→Prop}{w w':World}{k:KindP}{v:Value}(h:KindV X w v k)(hb:Below w.heap.size w w'):KindV X w' v k:=by
 induction k generalizing v with
 | lit pos s=>obtain⟨b,sv,hv,hx,hB,hs,ha⟩:=h;exact⟨b,sv,hv,hx,hB.below hb hB.lt,hs.below hb,ha⟩
 | ref pos n=>obtain⟨b,hv,hx,hB⟩:=h;exact⟨b,hv,hx,hB.below hb hB.lt⟩
 | not pos k ih=>obtain⟨b,u,hv,hx,hB,hs⟩:=h;exact⟨b,u,hv,hx,hB.below hb hB.lt,ih hs⟩
 | bin c pos k r ih ih'=>obtain⟨b,u,x,hv,hx,hB,hs,hs'⟩:=h;exact⟨b,u,x,hv,hx,hB.below hb hB.lt,ih hs,ih' hs'⟩
theorem Sl.top {α:Type}{X:Nat→Prop}{k:Nat}{R:List Value→α→Prop}{w:World}{v:Value}{l:List α}(hk:0<k)(h:Sl X k R w v l):Sl (fun b=>X b∨w.heap.size≤b) k R w v l:=by
 unfold Sl at h ⊢;obtain⟨a,c,rfl,hc,h⟩:=h;refine⟨a,c,rfl,hc,fun i x hx=>?_⟩;obtain⟨b,o,cs,ha,hb,hcs,hcell,hr⟩:=h i x hx;refine⟨b,o,cs,ha,fun hh=>?_,hcs,hcell,hr⟩;rcases hh with hh|hh
 ·exact hb hh
 ·obtain⟨u,hu⟩:∃u,cs[0]?=some u:=⟨cs[0]'(by omega),List.getElem?_eq_getElem (by omega)⟩;have:=World.block_lt_of_cell? w _ (hcell 0 u hu);simp at this;omega
theorem KindV.top {X:Nat→Prop}{w:World}{k:KindP}{v:Value}(h:KindV X w v k):KindV (fun b=>X b∨w.heap.size≤b) w v k:=by
 induction k generalizing v with
 | lit pos s=>obtain⟨b,sv,hv,hx,hB,hs,ha⟩:=h;exact⟨b,sv,hv,fun hh=>hh.elim hx (fun hh=>by have:=hB.lt;omega),hB,Sl.top (by decide) hs,ha⟩
 | ref pos n=>obtain⟨b,hv,hx,hB⟩:=h;exact⟨b,hv,fun hh=>hh.elim hx (fun hh=>by have:=hB.lt;omega),hB⟩
 | not pos k ih=>obtain⟨b,u,hv,hx,hB,hs⟩:=h;exact⟨b,u,hv,fun hh=>hh.elim hx (fun hh=>by have:=hB.lt;omega),hB,ih hs⟩
 | bin c pos k r ih ih'=>obtain⟨b,u,x,hv,hx,hB,hs,hs'⟩:=h;exact⟨b,u,x,hv,fun hh=>hh.elim hx (fun hh=>by have:=hB.lt;omega),hB,ih hs,ih' hs'⟩
theorem KindV.ptr {X:Nat→Prop}{w:World}{k:KindP}{v:Value}(h:KindV X w v k):∃b,v=.pointer (some ⟨b,0,none⟩)∧b<w.heap.size:=by
 cases k with
 | lit pos s=>obtain⟨b,sv,hv,hx,hB,hs⟩:=h;exact⟨b,hv,hB.lt⟩
 | ref pos n=>obtain⟨b,hv,hx,hB⟩:=h;exact⟨b,hv,hB.lt⟩
 | not pos k=>obtain⟨b,u,hv,hx,hB,hs⟩:=h;exact⟨b,hv,hB.lt⟩
 | bin c pos k r=>obtain⟨b,u,x,hv,hx,hB,hs,hs'⟩:=h;exact⟨b,hv,hB.lt⟩
def lenAt (w:World)(pb:Nat):Nat:=match w.cell? ⟨pb,0,none⟩ with
 | some (.slice _ n _)=>n
 | _=>0
theorem PS.len {pb B:Nat}{w:World}{l:List Tok}(h:PS pb B w l):lenAt w pb=l.length:=by
 obtain⟨v,h1,h2⟩:=h.st;obtain⟨a,c,rfl,_⟩:=h2.shape;unfold lenAt;rw[h1.cell (o:=0) rfl]
def OneC (d:Nat):Prop:=∀(n:Int),0≤n→n+(d:Int)=9→∀(pb B:Nat) (w:World) (l:List Tok),PS pb B w l→Pc 132 [.pointer (some ⟨pb,0,none⟩),.int .i64 n] pb B w l (oneP d) (fun w' r k=>KindV (·<w.heap.size) w' r k)
def KindC (d:Nat):Prop:=∀(n:Int),0≤n→n+(d:Int)=9→∀(pb B:Nat) (w:World) (l:List Tok),PS pb B w l→Pc 97 [.pointer (some ⟨pb,0,none⟩),.int .i64 n] pb B w l (kindP d) (fun w' r k=>KindV (·<w.heap.size) w' r k)
theorem kind_of (d : Nat) (hone : OneC d) : KindC d := by
  intro n hn0 hn pb B w l0 h0
  obtain ⟨t, r, rfl⟩ := h0.tl.cons
  obtain ⟨b, o, c, hB, hc, hne, c0, c1, c2, c3⟩ := h0.hd
  have cb : w.cell? ⟨pb, 0, none⟩ = some (.slice (some ⟨b, o, none⟩) (r.length + 1) c) := hB.cell rfl
  have hl0 : ∃ l0, l0 = t :: r := ⟨_, rfl⟩
  obtain ⟨l0, hl0⟩ := hl0
  rw [← hl0] at h0 ⊢
  have hhd : Cae.hd l0 = t := by rw [hl0]; rfl
  refine fun2_of_vc Tryz.func97 rfl (by kernel_rfl) [.tmp 4] rfl ?_
  push_cast -dsimp (maxSteps := 4000000) [Tryz.ntmps97]
  push_cast -dsimp [cb, c2]
  refine ⟨by omega, ?_⟩
  refine callP_of (hone n hn0 hn pb B w l0 h0) ?_ ?_
  · rintro v1 w1 ⟨k0, l1, e1, V1, P1, hk1⟩
    have hstart : kindP d l0 = kindLoop (oneP d) t.pos 1000 k0 l1 := by
      unfold kindP kindW
      rw [pb_of (p := peek) (x := Cae.hd l0) (l1 := l0) rfl, pb_of e1, hhd]
    push_cast -dsimp
    refine wpL_loop [4, 6, 7, 18, 19, 20, 21, 22, 23, 24, 25, 26, 27, 28, 29, 30, 31, 32, 33, 34, 35] (fun z w' => ∃ (m : Nat) (k1 : KindP) (l1 : List Tok), kindLoop (oneP d) t.pos m k1 l1 = kindP d l0 ∧ l1.length < m ∧ KindV (· < w.heap.size) w' (z 6) k1 ∧ PS pb B w' l1 ∧ Kept (· = pb) w w') (fun z w' => lenAt w' pb) ?_ ?_
    · have hlt : l1.length < 1000 := by have := P1.tl.len; omega
      exact ⟨1000, k0, l1, hstart.symm, hlt, V1, P1, hk1⟩
    rintro z w' ⟨m, k1, l1, hm2, hm, V1, hP1, hkw⟩
    obtain ⟨kb, hz6, hkb⟩ := V1.ptr
    rw [hz6] at V1
    obtain ⟨t1, r1, el1⟩ := hP1.tl.cons
    push_cast -dsimp
    refine callK_of (take_c [124] hP1) ?_
    rintro _ w2 hT
    rcases hT with ⟨hs1, rfl, t1', r1', el1', h51, P2, kt, hz⟩ | ⟨hs1, rfl, hww⟩
    · obtain ⟨rfl, rfl⟩ : t1 = t1' ∧ r1 = r1' := by rw [el1] at el1'; exact List.cons.inj el1'
      rw [el1] at hs1
      · -- one more
        have hbin : binP l1 = .ok (3, r1) := by
          rw [el1]
          simp [binP, pif, hs1, Cae.pb, popP, pr, h51]
        push_cast -dsimp
        refine callP_of (hone n hn0 hn pb B w2 r1 P2) ?_ ?_
        · rintro u w3 ⟨k2, l2, e2, V2, P3, k3⟩
          obtain ⟨ub, rfl, hub⟩ := V2.ptr
          push_cast -dsimp [hz6]
          refine boxK_of ?_
          intro w4 hw4
          have B4 : Blk w4 w3.heap.size 48 [.int .i64 (3 : Nat), .int .i64 t.pos, .slice none 0 0, str [], .pointer (some ⟨kb, 0, none⟩), .pointer (some ⟨ub, 0, none⟩)] := hw4.blk
          have P4 := P3.below hw4.below
          have z4 := hw4.size
          have k14 : Kept (· = pb) w' w4 := (kt.trans k3 (fun i _ h => h)).trans (Kept.of_below hw4.below (X := (· = pb)) (fun i h1 h2 => by omega)) (fun i _ h => h)
          have z14 := k14.size
          have zw := hkw.size
          have hKa : KindV (· < w.heap.size) w4 (.pointer (some ⟨kb, 0, none⟩)) k1 := V1.mono k14 (fun i h => by have := hP1.lt; have := h0.le; omega) (fun _ h => h)
          have hKb : KindV (· < w.heap.size) w4 (.pointer (some ⟨ub, 0, none⟩)) k2 := V2.mono (Kept.of_below hw4.below (X := fun i => False) (fun i h1 h2 => by omega)) (fun _ h => h.elim) (fun i h => by have := kt.size; omega)
          have hnext : kindLoop (oneP d) t.pos (m - 1) (.bin 3 t.pos k1 k2) l2 = kindP d l0 := by
            rw [← hm2]
            obtain ⟨m', rfl⟩ : ∃ m', m = m' + 1 := ⟨m - 1, by omega⟩
            rw [kindLoop, pb_of hbin, if_neg (by decide), pb_of e2]
            rfl
          have hl2 : l2.length ≤ r1.length := by
            obtain ⟨pre, _, e, _⟩ := lo_one d _ _ _ e2
            rw [e, List.length_append]; omega
          have hl1 : l1.length = r1.length + 1 := by rw [el1, List.length_cons]
          have hlen4 := P4.len
          have hlen1 := hP1.len
          push_cast -dsimp
          refine ⟨⟨m - 1, _, l2, hnext, by omega, ?_, P4, hkw.trans k14 (fun i _ h => h)⟩, by rw [hlen4, hlen1]; omega⟩
          exact ⟨w3.heap.size, _, _, rfl, by have := kt.size; have := k3.size; omega, B4, hKa, hKb⟩
        · rintro c w3 ⟨e, pos, he, ht, hk3⟩
          push_cast -dsimp
          refine ⟨e, pos, ?_, ht.mono (by have := kt.size; have := hkw.size; omega), (hkw.trans kt (fun i _ h => h)).trans hk3 (fun i _ h => h)⟩
          rw [← hm2]
          obtain ⟨m', rfl⟩ : ∃ m', m = m' + 1 := ⟨m - 1, by omega⟩
          rw [kindLoop, pb_of hbin, if_neg (by decide)]
          unfold Cae.pb
          rw [he]
    · obtain rfl : w' = w2 := hww.symm
      rw [el1] at hs1
      push_cast -dsimp
      refine callK_of (take_c [38] hP1) ?_
      rintro _ w2 hT
      rcases hT with ⟨hs2, rfl, t1', r1', el1', h51, P2, kt, hz⟩ | ⟨hs2, rfl, hww⟩
      · obtain ⟨rfl, rfl⟩ : t1 = t1' ∧ r1 = r1' := by rw [el1] at el1'; exact List.cons.inj el1'
        rw [el1] at hs2
        · -- one more
          have hbin : binP l1 = .ok (4, r1) := by
            rw [el1]
            simp [binP, pif, hs1, hs2, Cae.pb, popP, pr, h51]
          push_cast -dsimp
          refine callP_of (hone n hn0 hn pb B w2 r1 P2) ?_ ?_
          · rintro u w3 ⟨k2, l2, e2, V2, P3, k3⟩
            obtain ⟨ub, rfl, hub⟩ := V2.ptr
            push_cast -dsimp [hz6]
            refine boxK_of ?_
            intro w4 hw4
            have B4 : Blk w4 w3.heap.size 48 [.int .i64 (4 : Nat), .int .i64 t.pos, .slice none 0 0, str [], .pointer (some ⟨kb, 0, none⟩), .pointer (some ⟨ub, 0, none⟩)] := hw4.blk
            have P4 := P3.below hw4.below
            have z4 := hw4.size
            have k14 : Kept (· = pb) w' w4 := (kt.trans k3 (fun i _ h => h)).trans (Kept.of_below hw4.below (X := (· = pb)) (fun i h1 h2 => by omega)) (fun i _ h => h)
            have z14 := k14.size
            have zw := hkw.size
            have hKa : KindV (· < w.heap.size) w4 (.pointer (some ⟨kb, 0, none⟩)) k1 := V1.mono k14 (fun i h => by have := hP1.lt; have := h0.le; omega) (fun _ h => h)
            have hKb : KindV (· < w.heap.size) w4 (.pointer (some ⟨ub, 0, none⟩)) k2 := V2.mono (Kept.of_below hw4.below (X := fun i => False) (fun i h1 h2 => by omega)) (fun _ h => h.elim) (fun i h => by have := kt.size; omega)
            have hnext : kindLoop (oneP d) t.pos (m - 1) (.bin 4 t.pos k1 k2) l2 = kindP d l0 := by
              rw [← hm2]
              obtain ⟨m', rfl⟩ : ∃ m', m = m' + 1 := ⟨m - 1, by omega⟩
              rw [kindLoop, pb_of hbin, if_neg (by decide), pb_of e2]
              rfl
            have hl2 : l2.length ≤ r1.length := by
              obtain ⟨pre, _, e, _⟩ := lo_one d _ _ _ e2
              rw [e, List.length_append]; omega
            have hl1 : l1.length = r1.length + 1 := by rw [el1, List.length_cons]
            have hlen4 := P4.len
            have hlen1 := hP1.len
            push_cast -dsimp
            refine ⟨⟨m - 1, _, l2, hnext, by omega, ?_, P4, hkw.trans k14 (fun i _ h => h)⟩, by rw [hlen4, hlen1]; omega⟩
            exact ⟨w3.heap.size, _, _, rfl, by have := kt.size; have := k3.size; omega, B4, hKa, hKb⟩
          · rintro c w3 ⟨e, pos, he, ht, hk3⟩
            push_cast -dsimp
            refine ⟨e, pos, ?_, ht.mono (by have := kt.size; have := hkw.size; omega), (hkw.trans kt (fun i _ h => h)).trans hk3 (fun i _ h => h)⟩
            rw [← hm2]
            obtain ⟨m', rfl⟩ : ∃ m', m = m' + 1 := ⟨m - 1, by omega⟩
            rw [kindLoop, pb_of hbin, if_neg (by decide)]
            unfold Cae.pb
            rw [he]
      · obtain rfl : w' = w2 := hww.symm
        rw [el1] at hs2
        push_cast -dsimp
        refine callK_of (take_c [45] hP1) ?_
        rintro _ w2 hT
        rcases hT with ⟨hs3, rfl, t1', r1', el1', h51, P2, kt, hz⟩ | ⟨hs3, rfl, hww⟩
        · obtain ⟨rfl, rfl⟩ : t1 = t1' ∧ r1 = r1' := by rw [el1] at el1'; exact List.cons.inj el1'
          rw [el1] at hs3
          · -- one more
            have hbin : binP l1 = .ok (5, r1) := by
              rw [el1]
              simp [binP, pif, hs1, hs2, hs3, Cae.pb, popP, pr, h51]
            push_cast -dsimp
            refine callP_of (hone n hn0 hn pb B w2 r1 P2) ?_ ?_
            · rintro u w3 ⟨k2, l2, e2, V2, P3, k3⟩
              obtain ⟨ub, rfl, hub⟩ := V2.ptr
              push_cast -dsimp [hz6]
              refine boxK_of ?_
              intro w4 hw4
              have B4 : Blk w4 w3.heap.size 48 [.int .i64 (5 : Nat), .int .i64 t.pos, .slice none 0 0, str [], .pointer (some ⟨kb, 0, none⟩), .pointer (some ⟨ub, 0, none⟩)] := hw4.blk
              have P4 := P3.below hw4.below
              have z4 := hw4.size
              have k14 : Kept (· = pb) w' w4 := (kt.trans k3 (fun i _ h => h)).trans (Kept.of_below hw4.below (X := (· = pb)) (fun i h1 h2 => by omega)) (fun i _ h => h)
              have z14 := k14.size
              have zw := hkw.size
              have hKa : KindV (· < w.heap.size) w4 (.pointer (some ⟨kb, 0, none⟩)) k1 := V1.mono k14 (fun i h => by have := hP1.lt; have := h0.le; omega) (fun _ h => h)
              have hKb : KindV (· < w.heap.size) w4 (.pointer (some ⟨ub, 0, none⟩)) k2 := V2.mono (Kept.of_below hw4.below (X := fun i => False) (fun i h1 h2 => by omega)) (fun _ h => h.elim) (fun i h => by have := kt.size; omega)
              have hnext : kindLoop (oneP d) t.pos (m - 1) (.bin 5 t.pos k1 k2) l2 = kindP d l0 := by
                rw [← hm2]
                obtain ⟨m', rfl⟩ : ∃ m', m = m' + 1 := ⟨m - 1, by omega⟩
                rw [kindLoop, pb_of hbin, if_neg (by decide), pb_of e2]
                rfl
              have hl2 : l2.length ≤ r1.length := by
                obtain ⟨pre, _, e, _⟩ := lo_one d _ _ _ e2
                rw [e, List.length_append]; omega
              have hl1 : l1.length = r1.length + 1 := by rw [el1, List.length_cons]
              have hlen4 := P4.len
              have hlen1 := hP1.len
              push_cast -dsimp
              refine ⟨⟨m - 1, _, l2, hnext, by omega, ?_, P4, hkw.trans k14 (fun i _ h => h)⟩, by rw [hlen4, hlen1]; omega⟩
              exact ⟨w3.heap.size, _, _, rfl, by have := kt.size; have := k3.size; omega, B4, hKa, hKb⟩
            · rintro c w3 ⟨e, pos, he, ht, hk3⟩
              push_cast -dsimp
              refine ⟨e, pos, ?_, ht.mono (by have := kt.size; have := hkw.size; omega), (hkw.trans kt (fun i _ h => h)).trans hk3 (fun i _ h => h)⟩
              rw [← hm2]
              obtain ⟨m', rfl⟩ : ∃ m', m = m' + 1 := ⟨m - 1, by omega⟩
              rw [kindLoop, pb_of hbin, if_neg (by decide)]
              unfold Cae.pb
              rw [he]
        · obtain rfl : w' = w2 := hww.symm
          rw [el1] at hs3
          push_cast -dsimp [hz6]
          refine ⟨k1, l1, ?_, V1, hP1, hkw⟩
          rw [← hm2]
          obtain ⟨m', rfl⟩ : ∃ m', m = m' + 1 := ⟨m - 1, by omega⟩
          have hbin : binP l1 = .ok (0, l1) := by
            rw [el1]
            simp [binP, pif, hs1, hs2, hs3, pr]
          rw [kindLoop, pb_of hbin, if_pos rfl]
          rfl
  · rintro c w3 ⟨e, pos, he, ht, hk3⟩
    push_cast -dsimp
    refine ⟨e, pos, ?_, ht, hk3⟩
    unfold kindP kindW
    rw [pb_of (p := peek) (x := Cae.hd l0) (l1 := l0) rfl]
    unfold Cae.pb
    rw [he]
theorem one_zero:OneC 0:=by
 intro n hn0 hn pb B w l h;refine fun2_of_vc Tryz.func132 rfl (by kernel_rfl) [.tmp 4] rfl ?_;push_cast -dsimp(maxSteps:=4000000) [Tryz.ntmps132];refine callP_of (deep_c n h) ?_ ?_
 ·rintro _ _ ⟨h8,rfl,rfl⟩;omega
 ·rintro c w' ⟨h8,ht,hb⟩;push_cast -dsimp;exact⟨4,_,rfl,ht,Kept.of_below hb (fun i h1 h2=>by omega)⟩
theorem one_succ (d:Nat)(ih:OneC d):OneC (d+1):=by
 have ihk:=kind_of d ih;intro n hn0 hn pb B w l0 h0;obtain⟨t,r,hl0⟩:=h0.tl.cons;have hhd:Cae.hd l0=t:=by rw[hl0];rfl
 have h0':=h0;rw[hl0]at h0';obtain⟨b,o,c,hB,hc,hne,c0,c1,c2,c3⟩:=h0'.hd;have cb:w.cell? ⟨pb,0,none⟩=some (.slice (some ⟨b,o,none⟩) (r.length+1) c):=hB.cell rfl;have hle:=h0.le;have hlt:=h0.lt;refine fun2_of_vc Tryz.func132 rfl (by kernel_rfl) [.tmp 4] rfl ?_;push_cast -dsimp(maxSteps:=4000000) [Tryz.ntmps132];refine callP_of (deep_c n h0) ?_ (fun c w' hh=>by have:=hh.1;omega)
 rintro _ w0 ⟨h8,rfl,hw0⟩;obtain rfl:w=w0:=hw0.symm;push_cast -dsimp[cb,c2];refine⟨by omega,boxK_of ?_⟩;intro w1 hw1;have B1:Blk w1 w.heap.size 48 [.int .i64 0,.int .i64 t.pos,.slice none 0 0,str [],.pointer none,.pointer none]:=hw1.blk;have P1:=h0.below hw1.below;have P1':=h0'.below hw1.below;have z1:=hw1.size;have k1:Kept (·=pb) w w1:=Kept.of_below hw1.below (fun i h1 h2=>by omega)
 obtain⟨b',o',c',hB',hc',hne',c0',c1',c2',c3'⟩:=P1'.hd;have cb':w1.cell? ⟨pb,0,none⟩=some (.slice (some ⟨b',o',none⟩) (r.length+1) c'):=hB'.cell rfl;have hunf:oneP (d+1) l0=pif (isKind 3) litP (pif (seeP [126]) (Cae.pb peek fun t=>Cae.pb popP fun _=>Cae.pb (oneP d) fun k=>pr (.not t.pos k))
  (pif (seeP [40]) (Cae.pb popP fun _=>Cae.pb (kindW (oneP d)) fun k=>Cae.pb (mustP [41]) fun _=>pr k)
   (Cae.pb peek fun t=>Cae.pb nameP fun n=>pr (.ref t.pos n)))) l0:=rfl
 have hpk:∀{β:Type} (q:Tok→Pa β),Cae.pb peek q l0=q t l0:=fun q=>by rw[pb_of (p:=peek) (x:=Cae.hd l0) (l1:=l0) rfl,hhd]
 push_cast -dsimp[cb',c0'];refine⟨by omega,fun h3=>?_,fun h3=>?_⟩
 ·have hk3:isKind 3 l0=true:=by
   have:t.kind=3:=by omega
   simp[isKind,hhd,this]
  have h5:t.kind≠5:=by omega
  push_cast -dsimp[cb',c1'];refine⟨by omega,?_⟩;refine callK_of (parse_c t.text (h0'.tl.txt t (by simp)) w1 P1.db P1.er) ?_;rintro rv w2 ⟨hR,b2⟩;have P2:=P1.below b2;have P2':=P1'.below b2;have B2:=B1.below b2 (by omega);have k2:Kept (·=pb) w w2:=k1.trans (Kept.of_below b2 (X:=(·=pb)) (fun i h1 h2=>by omega)) (fun i _ h=>h);have z2:=b2.size;rcases hR with ⟨v,s,rfl,ho,hpr⟩|⟨hno,rfl⟩
  ·have hset:=setP_of hpr;have hs0:=ho.sl;have ha0:Arg v:=ho.nilArg;obtain⟨va,vc,rfl,_⟩:=hs0.shape;push_cast -dsimp;refine storeK_of B2 (by simp) rfl ?_;intro w3 hw3;have B3:Blk w3 w.heap.size 48 [.int .i64 1,.int .i64 t.pos,.slice none 0 0,str [],.pointer none,.pointer none]:=hw3.blk;push_cast -dsimp;refine storeK_of B3 (by simp) rfl ?_;intro w4 hw4
   have B4:Blk w4 w.heap.size 48 [.int .i64 1,.int .i64 t.pos,.slice va s.length vc,str [],.pointer none,.pointer none]:=hw4.blk;have k34:Kept (·=w.heap.size) w2 w4:=hw3.kept.trans hw4.kept (fun i _ h=>h);have P4':=P2'.kept k34 (fun i h=>by omega);have z4:=k34.size;have k4:Kept (·=pb) w w4:=k2.trans k34 (fun i h1 h2=>by omega);obtain⟨b4,o4,c4,hB4,hc4,hne4,_,_,_,_⟩:=P4'.hd
   have cb4:w4.cell? ⟨pb,0,none⟩=some (.slice (some ⟨b4,o4,none⟩) (r.length+1) c4):=hB4.cell rfl;push_cast -dsimp[cb4,slice1];refine⟨by omega,?_⟩;refine storeK_of hB4 (by simp) rfl ?_;intro w5 hw5;have P5:=P4'.pop hB4 h5 hw5;have B5:=B4.kept hw5.kept (by omega);have k5:=k4.trans hw5.kept (fun i _ h=>h)
   have s5:Sl (·<w.heap.size) 2 (En encR) w5 (.slice va s.length vc) s:=((hs0.kept k34 (fun i h=>by omega)).kept hw5.kept (fun i h=>by omega)).weaken (fun i h=>by omega);push_cast -dsimp;refine⟨.lit t.pos s,r,?_,⟨_,_,rfl,by omega,B5,s5,ha0⟩,P5,k5⟩;rw[hunf];unfold pif;rw[hk3,if_pos rfl];unfold litP;rw[hpk,hset,hl0];simp[Cae.pb,popP,h5,pr]
  ·have hset:=setP_no hno;push_cast -dsimp;refine callP_of (fail_c 3 P2) (fun _ _ h=>h.elim) ?_;rintro c w3 ⟨ht,hb⟩;push_cast -dsimp;refine⟨3,_,?_,ht.mono (by omega),k2.trans (Kept.of_below hb (X:=(·=pb)) (fun i h1 h2=>by omega)) (fun i _ h=>h)⟩;rw[hunf];unfold pif;rw[hk3,if_pos rfl];unfold litP;rw[hpk,hset];rfl
 ·have hk3:isKind 3 l0=false:=by
   have:t.kind≠3:=fun e=>h3 (by omega);simp[isKind,hhd,this]
  refine callK_of (take_c [126] P1) ?_;rintro _ w2 hT;rcases hT with ⟨hs1,rfl,t1,r1,el1,h51,P2,kt,hz⟩|⟨hs1,rfl,hww⟩
  ·obtain⟨rfl,rfl⟩:t=t1∧r=r1:=by rw[hl0]at el1;exact List.cons.inj el1
   have B2:=B1.kept kt (by omega);have hpop:popP l0=.ok ((),r):=by rw[hl0];exact popP_cons h51
   have hred:oneP (d+1) l0=Cae.pb (oneP d) (fun k=>pr (.not t.pos k)) r:=by
    rw[hunf];unfold pif;rw[hk3,hs1,if_neg (by decide),if_pos rfl,hpk,pb_of hpop]
   push_cast -dsimp;refine⟨⟨by omega,by omega⟩,?_⟩;refine callP_of (ih (n+1) (by omega) (by omega) pb B w2 r P2) ?_ ?_
   ·rintro u w3 ⟨k,l3,e3,V3,P3,k3⟩;obtain⟨ub,rfl,hub⟩:=V3.ptr;have B3:=B2.kept k3 (by omega);push_cast -dsimp;refine storeK_of B3 (by simp) rfl ?_;intro w4 hw4;have B4:Blk w4 w.heap.size 48 [.int .i64 6,.int .i64 t.pos,.slice none 0 0,str [],.pointer none,.pointer none]:=hw4.blk;push_cast -dsimp;refine storeK_of B4 (by simp) rfl ?_;intro w5 hw5
    have B5:Blk w5 w.heap.size 48 [.int .i64 6,.int .i64 t.pos,.slice none 0 0,str [],.pointer (some ⟨ub,0,none⟩),.pointer none]:=hw5.blk;have k35:Kept (·=w.heap.size) w3 w5:=hw4.kept.trans hw5.kept (fun i _ h=>h);have P5:=P3.kept k35 (fun i h=>by omega);have z3:=k3.size;have k5:Kept (·=pb) w w5:=((k1.trans kt (fun i _ h=>h)).trans k3 (fun i _ h=>h)).trans k35 (fun i h1 h2=>by omega)
    push_cast -dsimp;refine⟨.not t.pos k,l3,?_,⟨_,_,rfl,by omega,B5,V3.mono k35 (fun i h=>by omega) (fun i h=>by omega)⟩,P5,k5⟩;rw[hred,pb_of e3];rfl
   ·rintro c w3 ⟨e,pos,he,ht,hk⟩;push_cast -dsimp;refine⟨e,pos,?_,ht.mono (by omega),(k1.trans kt (fun i _ h=>h)).trans hk (fun i _ h=>h)⟩;rw[hred];unfold Cae.pb;rw[he]
  ·obtain rfl:w1=w2:=hww.symm;push_cast -dsimp;refine callK_of (take_c [40] P1) ?_;rintro _ w2 hT;rcases hT with ⟨hs2,rfl,t1,r1,el1,h51,P2,kt,hz⟩|⟨hs2,rfl,hww⟩
   ·obtain⟨rfl,rfl⟩:t=t1∧r=r1:=by rw[hl0]at el1;exact List.cons.inj el1
    have hpop:popP l0=.ok ((),r):=by rw[hl0];exact popP_cons h51
    have hred:oneP (d+1) l0=Cae.pb (kindP d) (fun k=>Cae.pb (mustP [41]) fun _=>pr k) r:=by
     rw[hunf];unfold pif;rw[hk3,hs1,hs2,if_neg (by decide),if_neg (by decide),if_pos rfl,pb_of hpop];rfl
    push_cast -dsimp;refine⟨⟨by omega,by omega⟩,?_⟩;refine callP_of (ihk (n+1) (by omega) (by omega) pb B w2 r P2) ?_ ?_
    ·rintro u w3 ⟨k,l3,e3,V3,P3,k3⟩;push_cast -dsimp;refine callP_of (must_c [41] P3) ?_ ?_
     ·rintro _ w4 ⟨_,l4,e4,rfl,P4,k4⟩;push_cast -dsimp;have z3:=k3.size;refine⟨k,l4,?_,V3.mono k4 (fun i h=>by omega) (fun i h=>by omega),P4,((k1.trans kt (fun i _ h=>h)).trans k3 (fun i _ h=>h)).trans k4 (fun i _ h=>h)⟩;rw[hred,pb_of e3,pb_of e4];rfl
     ·rintro c w4 ⟨e,pos,he,ht,hk⟩;push_cast -dsimp;have z3:=k3.size;refine⟨e,pos,?_,ht.mono (by omega),((k1.trans kt (fun i _ h=>h)).trans k3 (fun i _ h=>h)).trans hk (fun i _ h=>h)⟩;rw[hred,pb_of e3];unfold Cae.pb;rw[he]
    ·rintro c w3 ⟨e,pos,he,ht,hk⟩;push_cast -dsimp;refine⟨e,pos,?_,ht.mono (by omega),(k1.trans kt (fun i _ h=>h)).trans hk (fun i _ h=>h)⟩;rw[hred];unfold Cae.pb;rw[he]
   ·obtain rfl:w1=w2:=hww.symm;have hred:oneP (d+1) l0=Cae.pb nameP (fun n=>pr (.ref t.pos n)) l0:=by
     rw[hunf];unfold pif;rw[hk3,hs1,hs2,if_neg (by decide),if_neg (by decide),if_neg (by decide),hpk]
    push_cast -dsimp;refine callP_of (name_c P1) ?_ ?_
    ·rintro _ w3 ⟨nm,l3,e3,rfl,P3,k3⟩;have B3:=B1.kept k3 (by omega);push_cast -dsimp;refine storeK_of B3 (by simp) rfl ?_;intro w4 hw4;have B4:Blk w4 w.heap.size 48 [.int .i64 2,.int .i64 t.pos,.slice none 0 0,str [],.pointer none,.pointer none]:=hw4.blk;push_cast -dsimp;refine storeK_of B4 (by simp) rfl ?_;intro w5 hw5
     have B5:Blk w5 w.heap.size 48 [.int .i64 2,.int .i64 t.pos,.slice none 0 0,str nm,.pointer none,.pointer none]:=hw5.blk;have k35:Kept (·=w.heap.size) w3 w5:=hw4.kept.trans hw5.kept (fun i _ h=>h);have P5:=P3.kept k35 (fun i h=>by omega);have z3:=k3.size;have k5:Kept (·=pb) w w5:=(k1.trans k3 (fun i _ h=>h)).trans k35 (fun i h1 h2=>by omega);push_cast -dsimp
     refine⟨.ref t.pos nm,l3,?_,⟨_,rfl,by omega,B5⟩,P5,k5⟩;rw[hred,pb_of e3];rfl
    ·rintro c w3 ⟨e,pos,he,ht,hk⟩;push_cast -dsimp;refine⟨e,pos,?_,ht.mono (by omega),k1.trans hk (fun i _ h=>h)⟩;rw[hred];unfold Cae.pb;rw[he]
theorem one_c:∀d,OneC d
 | 0=>one_zero
 | d+1=>one_succ d (one_c d)
theorem kind_c (d:Nat):KindC d:=kind_of d (one_c d)
end Go.Proofs.YtledlfbbebodgaaGreatDoor
end
