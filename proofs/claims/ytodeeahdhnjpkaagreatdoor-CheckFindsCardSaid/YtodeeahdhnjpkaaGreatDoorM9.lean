/- Texts of this claim, merged: Rp9, Rpa, Vd, Rpb, Rpc, Prl4, Pmean4. -/
import Derived.Test.YtodeeahdhnjpkaaGreatDoorM8
import Derived.Recover
set_option maxRecDepth 100000
set_option linter.unusedSimpArgs false
set_option linter.unusedVariables false
set_option maxHeartbeats 8000000
section
namespace Go.Proofs.YtodeeahdhnjpkaaGreatDoor
open Go.Vc Go.Proofs Go.RowKit Cae
attribute [local irreducible] wpL callK valK unitK runK Fun Sl Vc.Own vc vcOps opK pureK
mutual
theorem unit_c:∀d,UnitC d
 | 0=>unit_zero
 | d+1=>unit_succ d (pat_c d)
theorem pat_c:∀d,PatC d
 | 0=>pat_of 0 (row_of 0 (again_of 0 unit_zero))
 | d+1=>pat_of (d+1) (row_of (d+1) (again_of (d+1) (unit_succ d (pat_c d))))
end
def encC (a:List UInt8×Nat×Nat):List Value:=[str a.1,.int .i64 a.2.1,ptrP a.2.2]
def encRu (a:Nat×Bool×Nat×Nat):List Value:=[.int .i64 a.1,.bool a.2.1,ptrP a.2.2.1,ptrP a.2.2.2]
theorem encC_one (a:List UInt8×Nat×Nat):∀u∈encC a,u.oneCell'=true:=by
 intro u hu;simp[encC,ptrP]at hu;rcases hu with rfl|rfl|rfl<;>rfl
theorem encRu_one (a:Nat×Bool×Nat×Nat):∀u∈encRu a,u.oneCell'=true:=by
 intro u hu;simp[encRu,ptrP]at hu;rcases hu with rfl|rfl|rfl|rfl<;>rfl
def ClsR (X:Nat→Prop)(w:World)(a:List UInt8×Nat×Nat)(c:ClassP):Prop:=a.1=c.name∧a.2.1=c.pos∧KindV X w (ptrP a.2.2) c.kind
def RulR (X:Nat→Prop)(w:World)(a:Nat×Bool×Nat×Nat)(r:RuleP):Prop:=a.1=r.pos∧a.2.1=r.brk∧PatV X w (ptrP a.2.2.1) r.before∧PatV X w (ptrP a.2.2.2) r.after
theorem _root_.Cae.All2.imp {α β:Type}{R S:α→β→Prop}{l:List α}{m:List β}(h:All2 R l m)(k:∀a b,R a b→S a b):All2 S l m:=by
 induction h with
 | nil=>exact .nil
 | cons h1 _ ih=>exact .cons (k _ _ h1) ih
theorem ClsR.mono {X X' Y:Nat→Prop}{w w':World}(hk:Kept Y w w')(hY:∀i,Y i→X i)(hX:∀i,X' i→X i){a:List UInt8×Nat×Nat}{c:ClassP}(h:ClsR X w a c):ClsR X' w' a c:=⟨h.1,h.2.1,h.2.2.mono hk hY hX⟩
theorem ClsR.top {X:Nat→Prop}{w:World}{a:List UInt8×Nat×Nat}{c:ClassP}(h:ClsR X w a c):ClsR (fun b=>X b∨w.heap.size≤b) w a c:=⟨h.1,h.2.1,h.2.2.top⟩
theorem RulR.mono {X X' Y:Nat→Prop}{w w':World}(hk:Kept Y w w')(hY:∀i,Y i→X i)(hX:∀i,X' i→X i){a:Nat×Bool×Nat×Nat}{c:RuleP}(h:RulR X w a c):RulR X' w' a c:=⟨h.1,h.2.1,h.2.2.1.mono hk hY hX,h.2.2.2.mono hk hY hX⟩
theorem RulR.top {X:Nat→Prop}{w:World}{a:Nat×Bool×Nat×Nat}{c:RuleP}(h:RulR X w a c):RulR (fun b=>X b∨w.heap.size≤b) w a c:=⟨h.1,h.2.1,h.2.2.1.top,h.2.2.2.top⟩
def FileV (X:Nat→Prop)(w:World)(v:Value)(f:FileP):Prop:=∃cv rv cs rs,v=.agg #[cv,rv,.bool f.els]∧Sl X 3 (En encC) w cv cs∧Sl X 4 (En encRu) w rv rs∧All2 (ClsR X w) cs f.classes∧All2 (RulR X w) rs f.rules
theorem pb_err {α β:Type}{p:Pa α}{q:α→Pa β}{l:List Cae.Tok}{e:Nat×Nat}(h:p l=.error e):Cae.pb p q l=.error e:=by
 unfold Cae.pb;rw[h]
theorem cls_step {m:Nat}{acc:List ClassP}{l1 l0:List Cae.Tok}(hm2:classLoop m acc l1=classLoop 1000 [] l0)(hm:l1.length<m)(hst:seeP [99,108,97,115,115] l1=true)(h20:acc.length≠20) :
  classLoop 1000 [] l0=Cae.pb classP (fun c=>classLoop (m-1) (acc++[c])) l1:=by
 obtain⟨m',rfl⟩:∃m',m=m'+1:=⟨m-1,by omega⟩;rw[←hm2,classLoop];unfold pif;rw[hst,if_pos rfl,if_neg h20];rfl
theorem cls_err {m:Nat}{acc:List ClassP}{l1 l0:List Cae.Tok}{e:Nat×Nat}(hm2:classLoop m acc l1=classLoop 1000 [] l0)(hm:l1.length<m)(hst:seeP [99,108,97,115,115] l1=true)(h20:acc.length≠20)(h:classP l1=.error e):fileP l0=.error e:=by
 unfold fileP;exact pb_err (by rw[cls_step hm2 hm hst h20];exact pb_err h)
theorem cls_many {m:Nat}{acc:List ClassP}{l1 l0:List Cae.Tok}(hm2:classLoop m acc l1=classLoop 1000 [] l0)(hm:l1.length<m)(hst:seeP [99,108,97,115,115] l1=true)(h20:acc.length=20):fileP l0=.error (4,(Cae.hd l1).pos):=by
 obtain⟨m',rfl⟩:∃m',m=m'+1:=⟨m-1,by omega⟩;unfold fileP;refine pb_err ?_;rw[←hm2,classLoop];unfold pif;rw[hst,if_pos rfl,if_pos h20];rfl
theorem cls_end {m:Nat}{acc:List ClassP}{l1 l0:List Cae.Tok}(hm2:classLoop m acc l1=classLoop 1000 [] l0)(hm:l1.length<m)(hst:seeP [99,108,97,115,115] l1=false):classLoop 1000 [] l0=.ok (acc,l1):=by
 obtain⟨m',rfl⟩:∃m',m=m'+1:=⟨m-1,by omega⟩;rw[←hm2,classLoop];unfold pif;rw[hst];rfl
theorem rul_step {m:Nat}{acc:List RuleP}{l1 l0:List Cae.Tok}(hm2:ruleLoop m acc l1=ruleLoop 1000 [] l0)(hm:l1.length<m)(hst:ruleStart l1=true)(h20:acc.length≠20) :
  ruleLoop 1000 [] l0=Cae.pb ruleP (fun c=>ruleLoop (m-1) (acc++[c])) l1:=by
 obtain⟨m',rfl⟩:∃m',m=m'+1:=⟨m-1,by omega⟩;rw[←hm2,ruleLoop];unfold pif;rw[hst,if_pos rfl,if_neg h20];rfl
theorem rul_err {m:Nat}{acc:List RuleP}{cs:List ClassP}{l1 l0 l:List Cae.Tok}{e:Nat×Nat}(hcs:classLoop 1000 [] l=.ok (cs,l0))(hm2:ruleLoop m acc l1=ruleLoop 1000 [] l0)(hm:l1.length<m)(hst:ruleStart l1=true)(h20:acc.length≠20)(h:ruleP l1=.error e):fileP l=.error e:=by
 unfold fileP;rw[pb_of hcs];exact pb_err (by rw[rul_step hm2 hm hst h20];exact pb_err h)
theorem rul_many {m:Nat}{acc:List RuleP}{cs:List ClassP}{l1 l0 l:List Cae.Tok}(hcs:classLoop 1000 [] l=.ok (cs,l0))(hm2:ruleLoop m acc l1=ruleLoop 1000 [] l0)(hm:l1.length<m)(hst:ruleStart l1=true)(h20:acc.length=20):fileP l=.error (4,(Cae.hd l1).pos):=by
 obtain⟨m',rfl⟩:∃m',m=m'+1:=⟨m-1,by omega⟩;unfold fileP;rw[pb_of hcs];refine pb_err ?_;rw[←hm2,ruleLoop];unfold pif;rw[hst,if_pos rfl,if_pos h20];rfl
theorem rul_end {m:Nat}{acc:List RuleP}{l1 l0:List Cae.Tok}(hm2:ruleLoop m acc l1=ruleLoop 1000 [] l0)(hm:l1.length<m)(hst:ruleStart l1=false):ruleLoop 1000 [] l0=.ok (acc,l1):=by
 obtain⟨m',rfl⟩:∃m',m=m'+1:=⟨m-1,by omega⟩;rw[←hm2,ruleLoop];unfold pif;rw[hst];rfl
theorem sh_class:Sh classP:=Sh.pbr le_peek fun _=>Sh.pb (LoS.sh (lo_must _)) fun _=>Le.pb (LoS.sh lo_name).le fun _=>Le.pb (LoS.sh (lo_must _)).le fun _=>Le.pb (Lo.le (lo_kindW (lo_one 9))) fun _=>Le.pb (LoS.sh (lo_must _)).le fun _=>Le.pr
theorem sh_rule:Sh ruleP:=LoS.sh lo_rule
theorem file_c {pb B:Nat}{w:World}{l0:List Cae.Tok}(h0:PS pb B w l0):Pc 32 [.pointer (some ⟨pb,0,none⟩)] pb B w l0 fileP (fun w' r f=>FileV (·<w.heap.size) w' r f):=by
 have hle:=h0.le;have hlt:=h0.lt;refine fun2_of_vc Tryz.func32 rfl (by kernel_rfl) [.cell 2 25] rfl ?_;push_cast -dsimp(maxSteps:=4000000) [Tryz.ntmps32];refine allocK (z:=[.slice none 0 0,.slice none 0 0,.bool false]) (by kernel_rfl) ?_;intro w1 hw1;have R1:=hw1.blk;have P1:=h0.below hw1.below;have z1:=hw1.size;push_cast -dsimp;refine allocK (z:=[.slice none 0 0,.slice none 0 0,.bool false]) (by kernel_rfl) ?_;intro w2 hw2;have F2:=hw2.blk;have R2:=R1.below hw2.below (by omega);have P2:=P1.below hw2.below;have z2:=hw2.size;rw[z1]at F2;push_cast -dsimp[z1];refine storeAgg (xt:=25) (n:=3) (by kernel_rfl) F2 rfl (by decide) (by simp;exact⟨rfl,rfl⟩) ?_;intro w3 hw3;have F3:Blk w3 (w.heap.size+1) 25 [.slice none 0 0,.slice none 0 0,.bool true]:=hw3.blk;have R3:=R2.kept hw3.kept (by omega);have P3:=P2.kept hw3.kept (fun i h=>by omega);have z3:=hw3.size;have k3:Kept (·=pb) w w3:=((Kept.new (X:=(·=pb)) hw1).trans (Kept.new (X:=(·=pb)) hw2) (fun i _ h=>h)).trans hw3.kept (fun i h1 h2=>by omega);push_cast -dsimp;refine wpL_loop [4,7,8,9,10,11,12,13,14,15,16,17,18,19,20,21,22,23,24,25,26,27,28,29,30,31,32,33,34,35,36,37,38,39,40] (fun z w'=>∃(m:Nat) (acc:List ClassP) (l1:List Cae.Tok) (cv:Value) (cs:List (List UInt8×Nat×Nat)),classLoop m acc l1=classLoop 1000 [] l0∧l1.length<m∧acc.length≤20 ∧
   Blk w' w.heap.size 25 [.slice none 0 0,.slice none 0 0,.bool false]∧Blk w' (w.heap.size+1) 25 [cv,.slice none 0 0,.bool true]∧Go.Vc.Own (w.heap.size+2) 74 3 encC w' cv cs ∧
   All2 (ClsR (fun b=>b<w.heap.size+2∨cv.ownBlock=some b) w') cs acc∧PS pb B w' l1∧Kept (·=pb) w w') (fun z w'=>lenAt w' pb) ?_ ?_
 ·have hlt:l0.length<1000:=by have:=h0.tl.len;omega
  exact⟨1000,[],l0,_,[],rfl,hlt,by simp,R3,F3,Vc.Own.nil (enc:=encC) _ _ (fun _=>rfl) _,.nil,P3,k3⟩
 rintro z w' ⟨m,acc,l1,cv,cs,hm2,hm,hacc,hR,hF,hO,hV,hP,hk⟩;have hcl:=hV.len;have hzw:=hk.size;have hPl:=hP.len;have hfl:=hF.lt;obtain⟨ca,cc,hcv⟩:=hO.slice;push_cast -dsimp;refine callK_of (see_c [99,108,97,115,115] hP) ?_;rintro _ wx ⟨rfl,hwx⟩;obtain rfl:w'=wx:=hwx.symm;cases hst:seeP [99,108,97,115,115] l1 with
 | true =>
  have d0:w'.cell? ⟨w.heap.size+1,0,none⟩=some (.slice ca cs.length cc):=by rw[←hcv];exact hF.cell rfl
  push_cast -dsimp[d0];refine⟨fun h20=>?_,fun h20=>?_⟩
  ·refine callP_of (fail_c 4 hP) (fun _ _ h=>h.elim) ?_;rintro ce we ⟨ht,hb⟩;push_cast -dsimp;exact⟨4,_,cls_many hm2 hm hst (by omega),ht.mono (by omega),hk.trans (Kept.of_below hb (X:=(·=pb)) (fun i h1 h2=>by omega)) (fun i _ h=>h)⟩
  ·have h20:acc.length≠20:=by omega
   obtain⟨t1,r1,el1⟩:=hP.tl.cons;have hhd:Cae.hd l1=t1:=by rw[el1];rfl
   have hP':=hP;rw[el1]at hP';obtain⟨b,o,c,hBp,hc,hne,c0,c1,c2,c3⟩:=hP'.hd;have cb:w'.cell? ⟨pb,0,none⟩=some (.slice (some ⟨b,o,none⟩) (r1.length+1) c):=hBp.cell rfl;have hcls:classP l1=Cae.pb (mustP [99,108,97,115,115]) (fun _=>Cae.pb nameP fun n=>Cae.pb (mustP [61]) fun _=>Cae.pb (kindP 9) fun k=>Cae.pb (mustP [59]) fun _=>pr ⟨n,t1.pos,k⟩) l1:=by
    unfold classP;rw[pb_of (p:=peek) (x:=Cae.hd l1) (l1:=l1) rfl,hhd]
   push_cast -dsimp[cb,c2];refine⟨by omega,?_⟩;refine allocK (z:=[str [],.int .i64 0,.pointer none]) (by kernel_rfl) ?_;intro w4 hw4;have C4:=hw4.blk;have P4:=hP.below hw4.below;have z4:=hw4.size;have k4:=hk.trans (Kept.new (X:=(·=pb)) hw4) (fun i _ h=>h);push_cast -dsimp;refine storeAgg (xt:=74) (n:=3) (by kernel_rfl) C4 rfl (by decide) (by simp;exact⟨rfl,rfl,rfl⟩) ?_;intro w5 hw5;have C5:Blk w5 w'.heap.size 74 [str [],.int .i64 t1.pos,.pointer none]:=hw5.blk;have P5:=P4.kept hw5.kept (fun i h=>by omega);have k5:=k4.trans hw5.kept (fun i h1 h2=>by omega);have z5:=hw5.size;push_cast -dsimp;refine callP_of (must_c [99,108,97,115,115] P5) ?_ ?_;rotate_left;·
    rintro ce we ⟨e,pos,he,ht,hke⟩
    push_cast -dsimp
    refine⟨e,pos,cls_err hm2 hm hst h20 ?_,ht.mono (by have:=k5.size;omega),k5.trans hke (fun i _ h=>h)⟩
    rw[hcls]
    exact pb_err he
   rintro _ w6 ⟨_,l2,e2,rfl,P6,kt6⟩;have C6:=C5.kept kt6 (by omega);have k6:=k5.trans kt6 (fun i _ h=>h);have z6:=kt6.size;push_cast -dsimp;refine callP_of (name_c P6) ?_ ?_;rotate_left;·
    rintro ce we ⟨e,pos,he,ht,hke⟩
    push_cast -dsimp
    refine⟨e,pos,cls_err hm2 hm hst h20 ?_,ht.mono (by have:=k6.size;omega),k6.trans hke (fun i _ h=>h)⟩
    rw[hcls]
    rw[pb_of e2];exact pb_err he
   rintro _ w7 ⟨nm,l3,e3,rfl,P7,kt7⟩;have C7:=C6.kept kt7 (by omega);have k7:=k6.trans kt7 (fun i _ h=>h);have z7:=kt7.size;push_cast -dsimp;refine storeK_of C7 (by simp) rfl ?_;intro w8 hw8;have C8:Blk w8 w'.heap.size 74 [str nm,.int .i64 t1.pos,.pointer none]:=hw8.blk;have P8:=P7.kept hw8.kept (fun i h=>by omega);have k8:=k7.trans hw8.kept (fun i h1 h2=>by omega);have z8:=hw8.size;push_cast -dsimp;refine callP_of (must_c [61] P8) ?_ ?_;rotate_left;·
    rintro ce we ⟨e,pos,he,ht,hke⟩
    push_cast -dsimp
    refine⟨e,pos,cls_err hm2 hm hst h20 ?_,ht.mono (by have:=k8.size;omega),k8.trans hke (fun i _ h=>h)⟩
    rw[hcls]
    rw[pb_of e2,pb_of e3];exact pb_err he
   rintro _ w9 ⟨_,l4,e4,rfl,P9,kt9⟩;have C9:=C8.kept kt9 (by omega);have k9:=k8.trans kt9 (fun i _ h=>h);have z9:=kt9.size;push_cast -dsimp;refine callP_of (kind_c 9 0 (by omega) (by omega) pb B w9 l4 P9) ?_ ?_;rotate_left;·
    rintro ce we ⟨e,pos,he,ht,hke⟩
    push_cast -dsimp
    refine⟨e,pos,cls_err hm2 hm hst h20 ?_,ht.mono (by have:=k9.size;omega),k9.trans hke (fun i _ h=>h)⟩
    rw[hcls]
    rw[pb_of e2,pb_of e3,pb_of e4];exact pb_err he
   rintro u wa ⟨kd,l5,e5,Va,Pa,kta⟩;obtain⟨ub,rfl,hub⟩:=Va.ptr;have Ca:=C9.kept kta (by omega);have ka:=k9.trans kta (fun i _ h=>h);have za:=kta.size;push_cast -dsimp;refine storeK_of Ca (by simp) rfl ?_;intro wb hwb;have Cb:Blk wb w'.heap.size 74 [str nm,.int .i64 t1.pos,ptrP ub]:=hwb.blk;have Pb:=Pa.kept hwb.kept (fun i h=>by omega);have kb:=ka.trans hwb.kept (fun i h1 h2=>by omega);have zb:=hwb.size;push_cast -dsimp;refine callP_of (must_c [59] Pb) ?_ ?_;rotate_left;·
    rintro ce we ⟨e,pos,he,ht,hke⟩
    push_cast -dsimp
    refine⟨e,pos,cls_err hm2 hm hst h20 ?_,ht.mono (by have:=kb.size;omega),kb.trans hke (fun i _ h=>h)⟩
    rw[hcls]
    rw[pb_of e2,pb_of e3,pb_of e4,pb_of e5];exact pb_err he
   rintro _ wc ⟨_,l6,e6,rfl,Pc',ktc⟩;have Cc:=Cb.kept ktc (by omega);have kc:=kb.trans ktc (fun i _ h=>h);have zc:=ktc.size;have hok:classP l1=.ok (⟨nm,t1.pos,kd⟩,l6):=by rw[hcls,pb_of e2,pb_of e3,pb_of e4,pb_of e5,pb_of e6];rfl
   have hl6:=sh_class _ _ _ hok;have kw:Kept (fun i=>i=pb) w' wc:=by
    refine((((((((Kept.new (X:=(·=pb)) hw4).trans hw5.kept (fun i h1 h2=>by omega)).trans kt6 (fun i _ h=>h)).trans kt7 (fun i _ h=>h)).trans hw8.kept (fun i h1 h2=>by omega)).trans kt9 (fun i _ h=>h)).trans kta (fun i _ h=>h)).trans hwb.kept (fun i h1 h2=>by omega)).trans ktc (fun i _ h=>h)
   have hRc:=hR.kept kw (by omega);have hFc:=hF.kept kw (by omega);have hOc:=hO.keptX kw (fun g hg h=>by have:=(hO.block g hg).1;omega);have hob:∀g,cv.ownBlock=some g→w.heap.size+2≤g∧g<w'.heap.size:=fun g hg=>hO.block g hg;have hVc:All2 (ClsR (fun b=>(b<w.heap.size+2∨cv.ownBlock=some b)∨w'.heap.size≤b) wc) cs acc:=hV.imp fun a c h=>h.top.mono kw (fun i h=>by omega) (fun i h=>h);have hVk:KindV (fun b=>b<w9.heap.size∨wa.heap.size≤b) wc (ptrP ub) kd:=(Va.top.mono hwb.kept (X':=fun b=>b<w9.heap.size∨wa.heap.size≤b) (fun i h=>by omega) (fun i h=>h)).mono ktc (fun i h=>by omega) (fun i h=>h);have dc:wc.cell? ⟨w.heap.size+1,0,none⟩=some (.slice ca cs.length cc):=by rw[←hcv];exact hFc.cell rfl
   have dl:cellsAt wc ⟨w'.heap.size,0,none⟩ 0 3=some [str nm,.int .i64 t1.pos,ptrP ub]:=Cc.cellsAt;push_cast -dsimp[dc,dl];refine rowK elI_22 rfl rfl (by omega) ?_;intro wd hwd;have hRd:=hRc.below hwd.below hRc.lt;have hFd:=hFc.below hwd.below hFc.lt;have hOd:=hOc.new hwd;rw[hcv]at hOd;have Pd:=Pc'.below hwd.below;have zd:=hwd.size;push_cast -dsimp;refine appendK2 (base:=w.heap.size+2) [(nm,t1.pos,ub)] (enc:=encC) elI_22 hOd (by rfl) (fun j y hy=>by simpa[encC,ptrP] using hwd.cell hy) encC_one (by rw[hcl];simp only[List.length_cons,List.length_nil];omega) (by omega) ?_;intro cv2 we hOe hge hne2;rw[←hcv]at hge hne2;have kg:Kept (fun j=>cv.ownBlock=some j) wd we:=Kept.grown hge (fun _ h=>h);have hRe:=hRd.kept kg (fun h=>by have:=hob _ h;omega);have hFe:=hFd.kept kg (fun h=>by have:=hob _ h;omega);have Pe:=Pd.kept kg (fun i h=>by have:=hob _ h;omega);have ze:=kg.size;obtain⟨a5,c5,rfl⟩:=hOe.slice;push_cast -dsimp;refine storeK_of hFe (by simp) rfl ?_;intro wf hwf;have hFf:Blk wf (w.heap.size+1) 25 [.slice a5 (cs++[(nm,t1.pos,ub)]).length c5,.slice none 0 0,.bool true]:=hwf.blk;have hRf:=hRe.kept hwf.kept (by omega);have hOf:=hOe.keptX hwf.kept (fun g hg h=>by have:=(hOe.block g hg).1;omega);have Pf:=Pe.kept hwf.kept (fun i h=>by omega);have kY:Kept (fun i=>i=w.heap.size+1∨cv.ownBlock=some i) wc wf:=((Kept.new (X:=fun i=>i=w.heap.size+1∨cv.ownBlock=some i) hwd).trans kg (fun i _ h=>.inr h)).trans hwf.kept (fun i _ h=>.inl h)
   have kf:=kc.trans kY (X:=(·=pb)) (fun i h1 h2=>by
    rcases h2 with h2|h2
    ·omega
    ·have:=hob _ h2;omega)
   have zkw:=kw.size;have hVf:All2 (ClsR (fun b=>b<w.heap.size+2∨(Value.slice a5 (cs++[(nm,t1.pos,ub)]).length c5).ownBlock=some b) wf) (cs++[(nm,t1.pos,ub)]) (acc++[⟨nm,t1.pos,kd⟩]):=by
    refine(hVc.imp fun a c h=>h.mono kY (fun i h=>?_) (fun i h=>?_)).snoc ⟨rfl,rfl,hVk.mono kY (fun i h=>?_) (fun i h=>?_)⟩
    ·rcases h with h|h
     ·exact .inl (.inl (by omega))
     ·exact .inl (.inr h)
    ·rcases h with h|h
     ·exact .inl (.inl h)
     ·rcases hne2 i h with h|h
      ·exact .inl (.inr h)
      ·exact .inr (by omega)
    ·rcases h with h|h
     ·exact .inl (by omega)
     ·have:=hob _ h;exact .inl (by omega)
    ·rcases h with h|h
     ·exact .inl (by omega)
     ·rcases hne2 i h with h|h
      ·have:=hob _ h;exact .inl (by omega)
      ·exact .inr (by omega)
   have hnx:classLoop (m-1) (acc++[⟨nm,t1.pos,kd⟩]) l6=classLoop 1000 [] l0:=by rw[cls_step hm2 hm hst h20,pb_of hok]
   have hPf:=Pf.len;push_cast -dsimp;exact⟨⟨m-1,acc++[⟨nm,t1.pos,kd⟩],l6,_,_,hnx,by omega,by rw[List.length_append,List.length_singleton];omega,hRf,hFf,hOf,hVf,Pf,kf⟩,by rw[hPf,hPl];exact hl6⟩
 | false =>
  have hcls:=cls_end hm2 hm hst;have hcv':=hcv;have hV0:∃V0,V0=w':=⟨_,rfl⟩;obtain⟨V0,hV0⟩:=hV0;have hlc:∃lc,lc=l1:=⟨_,rfl⟩;obtain⟨lc,hlc⟩:=hlc;rw[hcv]at hF;rw[←hV0]at hR hF hO hV hP hk hzw hPl ⊢
  rw[←hlc]at hcls hP hPl;clear hm2 hm hst;have hF0:=hF;have hP0:=hP;have hk0:=hk;push_cast -dsimp;refine wpL_loop [5,41,42,43,44,45,46,47,48,49,50,51,52,53,54,55,56,57,58,59,60,61,62,63,64,65,66,67,68,69,70,71,72,73,74,75,76,77,78,79,80,81,82,83,84] (fun z w'=>∃(m:Nat) (acc:List RuleP) (l1:List Cae.Tok) (rv:Value) (rs:List (Nat×Bool×Nat×Nat)),ruleLoop m acc l1=ruleLoop 1000 [] lc∧l1.length<m∧acc.length≤20 ∧
    Blk w' (w.heap.size+1) 25 [.slice ca cs.length cc,rv,.bool true]∧Go.Vc.Own V0.heap.size 60 4 encRu w' rv rs ∧
    All2 (RulR (fun b=>b<V0.heap.size∨rv.ownBlock=some b) w') rs acc∧PS pb B w' l1∧Kept (·=pb) w w'∧Kept (fun i=>i=pb∨i=w.heap.size+1) V0 w') (fun z w'=>lenAt w' pb) ?_ ?_
  ·have hlt:lc.length<1000:=by have:=hP0.tl.len;omega
   exact⟨1000,[],lc,_,[],rfl,hlt,by simp,hF0,Vc.Own.nil (enc:=encRu) _ _ (fun _=>rfl) _,.nil,hP0,hk0,Kept.refl _ _⟩
  clear hF hP hk hPl;have hVc:=hV;have hOc:=hO;have hclc:=hcl;have accc:=acc;rintro z w' ⟨m,acc2,l1,rv,rs,hm2,hm,hacc2,hF,hO,hV,hP,hk,hkv⟩;have hcl:=hV.len;have hzw:=hk.size;have hPl:=hP.len;have hfl2:=hF.lt;have hf0:=hF0.lt;have hkvs:=hkv.size;obtain⟨ra,rc,hrv⟩:=hO.slice;obtain⟨t1,r1,el1⟩:=hP.tl.cons;have hhd:Cae.hd l1=t1:=by rw[el1];rfl
  have hP':=hP;rw[el1]at hP';obtain⟨b,o,c,hBp,hc,hne,c0,c1,c2,c3⟩:=hP'.hd;have hrul:ruleP l1=Cae.pb saysP (fun b=>Cae.pb (patP 9) fun x=>Cae.pb (mustP [58]) fun _=>Cae.pb (patP 9) fun y=>Cae.pb (mustP [59]) fun _=>pr ⟨t1.pos,b,x,y⟩) l1:=by
   unfold ruleP;rw[pb_of (p:=peek) (x:=Cae.hd l1) (l1:=l1) rfl,hhd]
  have hrs:ruleStart l1=(seeP [98,114,101,97,107] l1 || seeP [107,101,101,112] l1):=rfl;push_cast -dsimp;refine callK_of (see_c [98,114,101,97,107] hP) ?_;rintro _ wx ⟨rfl,hwx⟩;obtain rfl:w'=wx:=hwx.symm;cases hs1:seeP [98,114,101,97,107] l1 with
  | true =>
   have hst:ruleStart l1=true:=by rw[hrs,hs1];rfl
   have d1:w'.cell? ⟨w.heap.size+1,1,none⟩=some (.slice ra rs.length rc):=by rw[←hrv];exact hF.cell rfl
   push_cast -dsimp[d1];refine⟨fun h20=>?_,fun h20=>?_⟩
   ·refine callP_of (fail_c 4 hP) (fun _ _ h=>h.elim) ?_;rintro ce we ⟨ht,hb⟩;push_cast -dsimp;exact⟨4,_,rul_many hcls hm2 hm hst (by omega),ht.mono (by omega),hk.trans (Kept.of_below hb (X:=(·=pb)) (fun i h1 h2=>by omega)) (fun i _ h=>h)⟩
   ·have h20:acc2.length≠20:=by omega
    have cb:w'.cell? ⟨pb,0,none⟩=some (.slice (some ⟨b,o,none⟩) (r1.length+1) c):=hBp.cell rfl;push_cast -dsimp[cb,c2];refine⟨by omega,?_⟩;refine allocK (z:=[.int .i64 0,.bool false,.pointer none,.pointer none]) (by kernel_rfl) ?_;intro w4 hw4;have C4:=hw4.blk;have P4:=hP.below hw4.below;have z4:=hw4.size;have k4:=hk.trans (Kept.new (X:=(·=pb)) hw4) (fun i _ h=>h);push_cast -dsimp;refine storeAgg (xt:=60) (n:=4) (by kernel_rfl) C4 rfl (by decide) (by simp;exact⟨rfl,rfl,rfl⟩) ?_;intro w5 hw5;have C5:Blk w5 w'.heap.size 60 [.int .i64 t1.pos,.bool false,.pointer none,.pointer none]:=hw5.blk;have P5:=P4.kept hw5.kept (fun i h=>by omega);have k5:=k4.trans hw5.kept (fun i h1 h2=>by omega);have z5:=hw5.size;have kw5:Kept (fun i=>i=pb) w' w5:=(Kept.new (X:=(·=pb)) hw4).trans hw5.kept (fun i h1 h2=>by omega);push_cast -dsimp;refine callK_of (take_c [98,114,101,97,107] P5) ?_;rintro _ wt hT;rcases hT with ⟨hsb,rfl,t6,l3,el6,h56,Pt,kt6,hz6⟩|⟨hsb,rfl,hww⟩
    ·have hpop:popP l1=.ok ((),l3):=by rw[el6];exact popP_cons h56
     have hsy:saysP l1=.ok (true,l3):=by
      unfold saysP pif;rw[hsb,if_pos rfl,pb_of hpop];rfl
     have Ct:=C5.kept kt6 (by omega);push_cast -dsimp;refine storeK_of Ct (by simp) rfl ?_;intro w6 hw6;have C6:Blk w6 w'.heap.size 60 [.int .i64 t1.pos,.bool true,.pointer none,.pointer none]:=hw6.blk;have P6:=Pt.kept hw6.kept (fun i h=>by omega);have k6:=(k5.trans kt6 (fun i _ h=>h)).trans hw6.kept (fun i h1 h2=>by omega);have kw6:=(kw5.trans kt6 (fun i _ h=>h)).trans hw6.kept (fun i h1 h2=>by omega);have z6:w5.heap.size≤w6.heap.size:=by have:=hw6.kept.size;have:=kt6.size;omega
     have d7:w6.cell? ⟨w'.heap.size,1,none⟩=some (.bool true):=C6.cell rfl;push_cast -dsimp[d7];refine callP_of (pat_c 9 0 (by omega) (by omega) pb B w6 l3 P6) ?_ ?_;rotate_left;·
      rintro ce we ⟨e,pos,he,ht,hke⟩
      push_cast -dsimp
      refine⟨e,pos,rul_err hcls hm2 hm hst h20 ?_,ht.mono (by have:=k6.size;omega),k6.trans hke (fun i _ h=>h)⟩
      rw[hrul]
      rw[pb_of hsy];exact pb_err he
     rintro u wa ⟨x1,l5,e5,Va,Pa,kta⟩;obtain⟨ub,rfl,hub,_⟩:=Va.ptr;have Ca:=C6.kept kta (by omega);have ka:=k6.trans kta (fun i _ h=>h);have za:=kta.size;push_cast -dsimp;refine storeK_of Ca (by simp) rfl ?_;intro wb hwb;have Cb:Blk wb w'.heap.size 60 [.int .i64 t1.pos,.bool true,ptrP ub,.pointer none]:=hwb.blk;have Pb:=Pa.kept hwb.kept (fun i h=>by omega);have kb:=ka.trans hwb.kept (fun i h1 h2=>by omega);have zb:=hwb.size;push_cast -dsimp;refine callP_of (must_c [58] Pb) ?_ ?_;rotate_left;·
      rintro ce we ⟨e,pos,he,ht,hke⟩
      push_cast -dsimp
      refine⟨e,pos,rul_err hcls hm2 hm hst h20 ?_,ht.mono (by have:=kb.size;omega),kb.trans hke (fun i _ h=>h)⟩
      rw[hrul]
      rw[pb_of hsy,pb_of e5];exact pb_err he
     rintro _ wc ⟨_,l6,e6,rfl,Pc',ktc⟩;have Cc:=Cb.kept ktc (by omega);have kc:=kb.trans ktc (fun i _ h=>h);have zc:=ktc.size;push_cast -dsimp;refine callP_of (pat_c 9 0 (by omega) (by omega) pb B wc l6 Pc') ?_ ?_;rotate_left;·
      rintro ce we ⟨e,pos,he,ht,hke⟩
      push_cast -dsimp
      refine⟨e,pos,rul_err hcls hm2 hm hst h20 ?_,ht.mono (by have:=kc.size;omega),kc.trans hke (fun i _ h=>h)⟩
      rw[hrul]
      rw[pb_of hsy,pb_of e5,pb_of e6];exact pb_err he
     rintro u wd ⟨x2,l7,e7,Vd,Pd,ktd⟩;obtain⟨vb,rfl,hvb,_⟩:=Vd.ptr;have Cd:=Cc.kept ktd (by omega);have kd:=kc.trans ktd (fun i _ h=>h);have zd:=ktd.size;push_cast -dsimp;refine storeK_of Cd (by simp) rfl ?_;intro we hwe;have Ce:Blk we w'.heap.size 60 [.int .i64 t1.pos,.bool true,ptrP ub,ptrP vb]:=hwe.blk;have Pe:=Pd.kept hwe.kept (fun i h=>by omega);have ke:=kd.trans hwe.kept (fun i h1 h2=>by omega);have ze:=hwe.size;push_cast -dsimp;refine callP_of (must_c [59] Pe) ?_ ?_;rotate_left;·
      rintro ce we ⟨e,pos,he,ht,hke⟩
      push_cast -dsimp
      refine⟨e,pos,rul_err hcls hm2 hm hst h20 ?_,ht.mono (by have:=ke.size;omega),ke.trans hke (fun i _ h=>h)⟩
      rw[hrul]
      rw[pb_of hsy,pb_of e5,pb_of e6,pb_of e7];exact pb_err he
     rintro _ wf ⟨_,l8,e8,rfl,Pf,ktf⟩;have Cf:=Ce.kept ktf (by omega);have kf:=ke.trans ktf (fun i _ h=>h);have zf:=ktf.size;have hok:ruleP l1=.ok (⟨t1.pos,true,x1,x2⟩,l8):=by rw[hrul,pb_of hsy,pb_of e5,pb_of e6,pb_of e7,pb_of e8];rfl
     have hl8:=sh_rule _ _ _ hok;have kw:Kept (fun i=>i=pb) w' wf:=((((((kw6.trans kta (fun i _ h=>h)).trans hwb.kept (fun i h1 h2=>by omega)).trans ktc (fun i _ h=>h)).trans ktd (fun i _ h=>h)).trans hwe.kept (fun i h1 h2=>by omega)).trans ktf (fun i _ h=>h));have hFf:=hF.kept kw (by omega);have hOf:=hO.keptX kw (fun g hg h=>by have:=(hO.block g hg).1;omega);have hob:∀g,rv.ownBlock=some g→V0.heap.size≤g∧g<w'.heap.size:=fun g hg=>hO.block g hg;have hVf:All2 (RulR (fun b=>(b<V0.heap.size∨rv.ownBlock=some b)∨w'.heap.size≤b) wf) rs acc2:=hV.imp fun a c h=>h.top.mono kw (fun i h=>by omega) (fun i h=>h);have hVx1:PatV (fun b=>b<w6.heap.size∨wa.heap.size≤b) wf (ptrP ub) x1:=(((Va.top.mono hwb.kept (X':=fun b=>b<w6.heap.size∨wa.heap.size≤b) (fun i h=>by omega) (fun i h=>h)).mono ktc (X':=fun b=>b<w6.heap.size∨wa.heap.size≤b) (fun i h=>by omega) (fun i h=>h)).mono ktd (X':=fun b=>b<w6.heap.size∨wa.heap.size≤b) (fun i h=>by omega) (fun i h=>h)).mono hwe.kept (X':=fun b=>b<w6.heap.size∨wa.heap.size≤b) (fun i h=>by omega) (fun i h=>h) |>.mono ktf (fun i h=>by omega) (fun i h=>h);have hVx2:PatV (fun b=>b<wc.heap.size∨wd.heap.size≤b) wf (ptrP vb) x2:=(Vd.top.mono hwe.kept (X':=fun b=>b<wc.heap.size∨wd.heap.size≤b) (fun i h=>by omega) (fun i h=>h)).mono ktf (fun i h=>by omega) (fun i h=>h);have df:wf.cell? ⟨w.heap.size+1,1,none⟩=some (.slice ra rs.length rc):=by rw[←hrv];exact hFf.cell rfl
     have dl:cellsAt wf ⟨w'.heap.size,0,none⟩ 0 4=some [.int .i64 t1.pos,.bool true,ptrP ub,ptrP vb]:=Cf.cellsAt;push_cast -dsimp[df,dl];refine rowK elI_23 rfl rfl (by omega) ?_;intro wg hwg;have hFg:=hFf.below hwg.below hFf.lt;have hOg:=hOf.new hwg;rw[hrv]at hOg;have Pg:=Pf.below hwg.below;have zg:=hwg.size;push_cast -dsimp;refine appendK2 (base:=V0.heap.size) [(t1.pos,true,ub,vb)] (enc:=encRu) elI_23 hOg (by rfl) (fun j y hy=>by simpa[encRu,ptrP] using hwg.cell hy) encRu_one (by rw[hcl];simp only[List.length_cons,List.length_nil];omega) (by omega) ?_;intro rv2 wh hOh hgh hne2;rw[←hrv]at hgh hne2;have kg:Kept (fun j=>rv.ownBlock=some j) wg wh:=Kept.grown hgh (fun _ h=>h);have hFh:=hFg.kept kg (fun h=>by have:=hob _ h;omega);have Ph:=Pg.kept kg (fun i h=>by have:=hob _ h;omega);have zh:=kg.size;obtain⟨a5,c5,rfl⟩:=hOh.slice;push_cast -dsimp;refine storeK_of hFh (by simp) rfl ?_;intro wi hwi;have hFi:Blk wi (w.heap.size+1) 25 [.slice ca cs.length cc,.slice a5 (rs++[(t1.pos,true,ub,vb)]).length c5,.bool true]:=hwi.blk;have hOi:=hOh.keptX hwi.kept (fun g hg h=>by have:=(hOh.block g hg).1;omega);have Pi:=Ph.kept hwi.kept (fun i h=>by omega);have kY:Kept (fun i=>i=w.heap.size+1∨rv.ownBlock=some i) wf wi:=((Kept.new (X:=fun i=>i=w.heap.size+1∨rv.ownBlock=some i) hwg).trans kg (fun i _ h=>.inr h)).trans hwi.kept (fun i _ h=>.inl h);have ki:=kf.trans kY (X:=(·=pb)) (fun i h1 h2=>by
      rcases h2 with h2|h2
      ·omega
      ·have:=hob _ h2;omega)
     have kv0:Kept (fun i=>i=pb∨i=w.heap.size+1∨rv.ownBlock=some i) w' wi:=(kw.weaken (Y:=fun i=>i=pb∨i=w.heap.size+1∨rv.ownBlock=some i) (fun i _ h=>.inl h)).trans kY (fun i _ h=>.inr h);have kv:=hkv.trans kv0 (fun i h1 h2=>by
      rcases h2 with h2|h2|h2
      ·exact .inl h2
      ·exact .inr h2
      ·have:=hob _ h2;omega)
     have zkw:=kw.size;have hVi:All2 (RulR (fun b=>b<V0.heap.size∨(Value.slice a5 (rs++[(t1.pos,true,ub,vb)]).length c5).ownBlock=some b) wi) (rs++[(t1.pos,true,ub,vb)]) (acc2++[⟨t1.pos,true,x1,x2⟩]):=by
      refine(hVf.imp fun a c h=>h.mono kY (fun i h=>?_) (fun i h=>?_)).snoc ⟨rfl,rfl,hVx1.mono kY (fun i h=>?_) (fun i h=>?_),hVx2.mono kY (fun i h=>?_) (fun i h=>?_)⟩
      ·rcases h with h|h
       ·exact .inl (.inl (by omega))
       ·exact .inl (.inr h)
      ·rcases h with h|h
       ·exact .inl (.inl h)
       ·rcases hne2 i h with h|h
        ·exact .inl (.inr h)
        ·exact .inr (by omega)
      ·rcases h with h|h
       ·exact .inl (by omega)
       ·have:=hob _ h;exact .inl (by omega)
      ·rcases h with h|h
       ·exact .inl (by omega)
       ·rcases hne2 i h with h|h
        ·have:=hob _ h;exact .inl (by omega)
        ·exact .inr (by omega)
      ·rcases h with h|h
       ·exact .inl (by omega)
       ·have:=hob _ h;exact .inl (by omega)
      ·rcases h with h|h
       ·exact .inl (by omega)
       ·rcases hne2 i h with h|h
        ·have:=hob _ h;exact .inl (by omega)
        ·exact .inr (by omega)
     have hnx:ruleLoop (m-1) (acc2++[⟨t1.pos,true,x1,x2⟩]) l8=ruleLoop 1000 [] lc:=by rw[rul_step hm2 hm hst h20,pb_of hok]
     have hPi:=Pi.len;push_cast -dsimp;exact⟨⟨m-1,acc2++[⟨t1.pos,true,x1,x2⟩],l8,_,_,hnx,by omega,by rw[List.length_append,List.length_singleton];omega,hFi,hOi,hVi,Pi,ki,kv⟩,by rw[hPi,hPl];exact hl8⟩
    ·obtain rfl:w5=wt:=hww.symm;push_cast -dsimp;refine storeK_of C5 (by simp) rfl ?_;intro wu hwu;have Cu:Blk wu w'.heap.size 60 [.int .i64 t1.pos,.bool false,.pointer none,.pointer none]:=hwu.blk;have Pu:=P5.kept hwu.kept (fun i h=>by omega);have ku:=k5.trans hwu.kept (fun i h1 h2=>by omega);have zu:=hwu.size;have du:wu.cell? ⟨w'.heap.size,1,none⟩=some (.bool false):=Cu.cell rfl;push_cast -dsimp[du];have hsy0:saysP l1=Cae.pb (mustP [107,101,101,112]) (fun _=>pr false) l1:=by
      unfold saysP pif;rw[hsb];rfl
     refine callP_of (must_c [107,101,101,112] Pu) ?_ ?_;rotate_left;·
      rintro ce we ⟨e,pos,he,ht,hke⟩
      push_cast -dsimp
      refine⟨e,pos,rul_err hcls hm2 hm hst h20 ?_,ht.mono (by have:=ku.size;omega),ku.trans hke (fun i _ h=>h)⟩
      rw[hrul]
      refine pb_err ?_;rw[hsy0];exact pb_err he
     rintro _ w6 ⟨_,l3,e3,rfl,P6,kt6⟩;have hsy:saysP l1=.ok (false,l3):=by rw[hsy0,pb_of e3];rfl
     have C6:=Cu.kept kt6 (by omega);have k6:=ku.trans kt6 (fun i _ h=>h);have kw6:=(kw5.trans hwu.kept (fun i h1 h2=>by omega)).trans kt6 (fun i _ h=>h);have z6:w5.heap.size≤w6.heap.size:=by have:=kt6.size;omega
     push_cast -dsimp;refine callP_of (pat_c 9 0 (by omega) (by omega) pb B w6 l3 P6) ?_ ?_;rotate_left;·
      rintro ce we ⟨e,pos,he,ht,hke⟩
      push_cast -dsimp
      refine⟨e,pos,rul_err hcls hm2 hm hst h20 ?_,ht.mono (by have:=k6.size;omega),k6.trans hke (fun i _ h=>h)⟩
      rw[hrul]
      rw[pb_of hsy];exact pb_err he
     rintro u wa ⟨x1,l5,e5,Va,Pa,kta⟩;obtain⟨ub,rfl,hub,_⟩:=Va.ptr;have Ca:=C6.kept kta (by omega);have ka:=k6.trans kta (fun i _ h=>h);have za:=kta.size;push_cast -dsimp;refine storeK_of Ca (by simp) rfl ?_;intro wb hwb;have Cb:Blk wb w'.heap.size 60 [.int .i64 t1.pos,.bool false,ptrP ub,.pointer none]:=hwb.blk;have Pb:=Pa.kept hwb.kept (fun i h=>by omega);have kb:=ka.trans hwb.kept (fun i h1 h2=>by omega);have zb:=hwb.size;push_cast -dsimp;refine callP_of (must_c [58] Pb) ?_ ?_;rotate_left;·
      rintro ce we ⟨e,pos,he,ht,hke⟩
      push_cast -dsimp
      refine⟨e,pos,rul_err hcls hm2 hm hst h20 ?_,ht.mono (by have:=kb.size;omega),kb.trans hke (fun i _ h=>h)⟩
      rw[hrul]
      rw[pb_of hsy,pb_of e5];exact pb_err he
     rintro _ wc ⟨_,l6,e6,rfl,Pc',ktc⟩;have Cc:=Cb.kept ktc (by omega);have kc:=kb.trans ktc (fun i _ h=>h);have zc:=ktc.size;push_cast -dsimp;refine callP_of (pat_c 9 0 (by omega) (by omega) pb B wc l6 Pc') ?_ ?_;rotate_left;·
      rintro ce we ⟨e,pos,he,ht,hke⟩
      push_cast -dsimp
      refine⟨e,pos,rul_err hcls hm2 hm hst h20 ?_,ht.mono (by have:=kc.size;omega),kc.trans hke (fun i _ h=>h)⟩
      rw[hrul]
      rw[pb_of hsy,pb_of e5,pb_of e6];exact pb_err he
     rintro u wd ⟨x2,l7,e7,Vd,Pd,ktd⟩;obtain⟨vb,rfl,hvb,_⟩:=Vd.ptr;have Cd:=Cc.kept ktd (by omega);have kd:=kc.trans ktd (fun i _ h=>h);have zd:=ktd.size;push_cast -dsimp;refine storeK_of Cd (by simp) rfl ?_;intro we hwe;have Ce:Blk we w'.heap.size 60 [.int .i64 t1.pos,.bool false,ptrP ub,ptrP vb]:=hwe.blk;have Pe:=Pd.kept hwe.kept (fun i h=>by omega);have ke:=kd.trans hwe.kept (fun i h1 h2=>by omega);have ze:=hwe.size;push_cast -dsimp;refine callP_of (must_c [59] Pe) ?_ ?_;rotate_left;·
      rintro ce we ⟨e,pos,he,ht,hke⟩
      push_cast -dsimp
      refine⟨e,pos,rul_err hcls hm2 hm hst h20 ?_,ht.mono (by have:=ke.size;omega),ke.trans hke (fun i _ h=>h)⟩
      rw[hrul]
      rw[pb_of hsy,pb_of e5,pb_of e6,pb_of e7];exact pb_err he
     rintro _ wf ⟨_,l8,e8,rfl,Pf,ktf⟩;have Cf:=Ce.kept ktf (by omega);have kf:=ke.trans ktf (fun i _ h=>h);have zf:=ktf.size;have hok:ruleP l1=.ok (⟨t1.pos,false,x1,x2⟩,l8):=by rw[hrul,pb_of hsy,pb_of e5,pb_of e6,pb_of e7,pb_of e8];rfl
     have hl8:=sh_rule _ _ _ hok;have kw:Kept (fun i=>i=pb) w' wf:=((((((kw6.trans kta (fun i _ h=>h)).trans hwb.kept (fun i h1 h2=>by omega)).trans ktc (fun i _ h=>h)).trans ktd (fun i _ h=>h)).trans hwe.kept (fun i h1 h2=>by omega)).trans ktf (fun i _ h=>h));have hFf:=hF.kept kw (by omega);have hOf:=hO.keptX kw (fun g hg h=>by have:=(hO.block g hg).1;omega);have hob:∀g,rv.ownBlock=some g→V0.heap.size≤g∧g<w'.heap.size:=fun g hg=>hO.block g hg;have hVf:All2 (RulR (fun b=>(b<V0.heap.size∨rv.ownBlock=some b)∨w'.heap.size≤b) wf) rs acc2:=hV.imp fun a c h=>h.top.mono kw (fun i h=>by omega) (fun i h=>h);have hVx1:PatV (fun b=>b<w6.heap.size∨wa.heap.size≤b) wf (ptrP ub) x1:=(((Va.top.mono hwb.kept (X':=fun b=>b<w6.heap.size∨wa.heap.size≤b) (fun i h=>by omega) (fun i h=>h)).mono ktc (X':=fun b=>b<w6.heap.size∨wa.heap.size≤b) (fun i h=>by omega) (fun i h=>h)).mono ktd (X':=fun b=>b<w6.heap.size∨wa.heap.size≤b) (fun i h=>by omega) (fun i h=>h)).mono hwe.kept (X':=fun b=>b<w6.heap.size∨wa.heap.size≤b) (fun i h=>by omega) (fun i h=>h) |>.mono ktf (fun i h=>by omega) (fun i h=>h);have hVx2:PatV (fun b=>b<wc.heap.size∨wd.heap.size≤b) wf (ptrP vb) x2:=(Vd.top.mono hwe.kept (X':=fun b=>b<wc.heap.size∨wd.heap.size≤b) (fun i h=>by omega) (fun i h=>h)).mono ktf (fun i h=>by omega) (fun i h=>h);have df:wf.cell? ⟨w.heap.size+1,1,none⟩=some (.slice ra rs.length rc):=by rw[←hrv];exact hFf.cell rfl
     have dl:cellsAt wf ⟨w'.heap.size,0,none⟩ 0 4=some [.int .i64 t1.pos,.bool false,ptrP ub,ptrP vb]:=Cf.cellsAt;push_cast -dsimp[df,dl];refine rowK elI_23 rfl rfl (by omega) ?_;intro wg hwg;have hFg:=hFf.below hwg.below hFf.lt;have hOg:=hOf.new hwg;rw[hrv]at hOg;have Pg:=Pf.below hwg.below;have zg:=hwg.size;push_cast -dsimp;refine appendK2 (base:=V0.heap.size) [(t1.pos,false,ub,vb)] (enc:=encRu) elI_23 hOg (by rfl) (fun j y hy=>by simpa[encRu,ptrP] using hwg.cell hy) encRu_one (by rw[hcl];simp only[List.length_cons,List.length_nil];omega) (by omega) ?_;intro rv2 wh hOh hgh hne2;rw[←hrv]at hgh hne2;have kg:Kept (fun j=>rv.ownBlock=some j) wg wh:=Kept.grown hgh (fun _ h=>h);have hFh:=hFg.kept kg (fun h=>by have:=hob _ h;omega);have Ph:=Pg.kept kg (fun i h=>by have:=hob _ h;omega);have zh:=kg.size;obtain⟨a5,c5,rfl⟩:=hOh.slice;push_cast -dsimp;refine storeK_of hFh (by simp) rfl ?_;intro wi hwi;have hFi:Blk wi (w.heap.size+1) 25 [.slice ca cs.length cc,.slice a5 (rs++[(t1.pos,false,ub,vb)]).length c5,.bool true]:=hwi.blk;have hOi:=hOh.keptX hwi.kept (fun g hg h=>by have:=(hOh.block g hg).1;omega);have Pi:=Ph.kept hwi.kept (fun i h=>by omega);have kY:Kept (fun i=>i=w.heap.size+1∨rv.ownBlock=some i) wf wi:=((Kept.new (X:=fun i=>i=w.heap.size+1∨rv.ownBlock=some i) hwg).trans kg (fun i _ h=>.inr h)).trans hwi.kept (fun i _ h=>.inl h);have ki:=kf.trans kY (X:=(·=pb)) (fun i h1 h2=>by
      rcases h2 with h2|h2
      ·omega
      ·have:=hob _ h2;omega)
     have kv0:Kept (fun i=>i=pb∨i=w.heap.size+1∨rv.ownBlock=some i) w' wi:=(kw.weaken (Y:=fun i=>i=pb∨i=w.heap.size+1∨rv.ownBlock=some i) (fun i _ h=>.inl h)).trans kY (fun i _ h=>.inr h);have kv:=hkv.trans kv0 (fun i h1 h2=>by
      rcases h2 with h2|h2|h2
      ·exact .inl h2
      ·exact .inr h2
      ·have:=hob _ h2;omega)
     have zkw:=kw.size;have hVi:All2 (RulR (fun b=>b<V0.heap.size∨(Value.slice a5 (rs++[(t1.pos,false,ub,vb)]).length c5).ownBlock=some b) wi) (rs++[(t1.pos,false,ub,vb)]) (acc2++[⟨t1.pos,false,x1,x2⟩]):=by
      refine(hVf.imp fun a c h=>h.mono kY (fun i h=>?_) (fun i h=>?_)).snoc ⟨rfl,rfl,hVx1.mono kY (fun i h=>?_) (fun i h=>?_),hVx2.mono kY (fun i h=>?_) (fun i h=>?_)⟩
      ·rcases h with h|h
       ·exact .inl (.inl (by omega))
       ·exact .inl (.inr h)
      ·rcases h with h|h
       ·exact .inl (.inl h)
       ·rcases hne2 i h with h|h
        ·exact .inl (.inr h)
        ·exact .inr (by omega)
      ·rcases h with h|h
       ·exact .inl (by omega)
       ·have:=hob _ h;exact .inl (by omega)
      ·rcases h with h|h
       ·exact .inl (by omega)
       ·rcases hne2 i h with h|h
        ·have:=hob _ h;exact .inl (by omega)
        ·exact .inr (by omega)
      ·rcases h with h|h
       ·exact .inl (by omega)
       ·have:=hob _ h;exact .inl (by omega)
      ·rcases h with h|h
       ·exact .inl (by omega)
       ·rcases hne2 i h with h|h
        ·have:=hob _ h;exact .inl (by omega)
        ·exact .inr (by omega)
     have hnx:ruleLoop (m-1) (acc2++[⟨t1.pos,false,x1,x2⟩]) l8=ruleLoop 1000 [] lc:=by rw[rul_step hm2 hm hst h20,pb_of hok]
     have hPi:=Pi.len;push_cast -dsimp;exact⟨⟨m-1,acc2++[⟨t1.pos,false,x1,x2⟩],l8,_,_,hnx,by omega,by rw[List.length_append,List.length_singleton];omega,hFi,hOi,hVi,Pi,ki,kv⟩,by rw[hPi,hPl];exact hl8⟩
  | false =>
   rw[hs1,Bool.false_or]at hrs;push_cast -dsimp;refine callK_of (see_c [107,101,101,112] hP) ?_;rintro _ wx ⟨rfl,hwx⟩;obtain rfl:w'=wx:=hwx.symm;cases hs2:seeP [107,101,101,112] l1 with
   | true =>
    have hst:ruleStart l1=true:=by rw[hrs,hs2]
    have d1:w'.cell? ⟨w.heap.size+1,1,none⟩=some (.slice ra rs.length rc):=by rw[←hrv];exact hF.cell rfl
    push_cast -dsimp[d1];refine⟨fun h20=>?_,fun h20=>?_⟩
    ·refine callP_of (fail_c 4 hP) (fun _ _ h=>h.elim) ?_;rintro ce we ⟨ht,hb⟩;push_cast -dsimp;exact⟨4,_,rul_many hcls hm2 hm hst (by omega),ht.mono (by omega),hk.trans (Kept.of_below hb (X:=(·=pb)) (fun i h1 h2=>by omega)) (fun i _ h=>h)⟩
    ·have h20:acc2.length≠20:=by omega
     have cb:w'.cell? ⟨pb,0,none⟩=some (.slice (some ⟨b,o,none⟩) (r1.length+1) c):=hBp.cell rfl;push_cast -dsimp[cb,c2];refine⟨by omega,?_⟩;refine allocK (z:=[.int .i64 0,.bool false,.pointer none,.pointer none]) (by kernel_rfl) ?_;intro w4 hw4;have C4:=hw4.blk;have P4:=hP.below hw4.below;have z4:=hw4.size;have k4:=hk.trans (Kept.new (X:=(·=pb)) hw4) (fun i _ h=>h);push_cast -dsimp;refine storeAgg (xt:=60) (n:=4) (by kernel_rfl) C4 rfl (by decide) (by simp;exact⟨rfl,rfl,rfl⟩) ?_;intro w5 hw5;have C5:Blk w5 w'.heap.size 60 [.int .i64 t1.pos,.bool false,.pointer none,.pointer none]:=hw5.blk;have P5:=P4.kept hw5.kept (fun i h=>by omega);have k5:=k4.trans hw5.kept (fun i h1 h2=>by omega);have z5:=hw5.size;have kw5:Kept (fun i=>i=pb) w' w5:=(Kept.new (X:=(·=pb)) hw4).trans hw5.kept (fun i h1 h2=>by omega);push_cast -dsimp;refine callK_of (take_c [98,114,101,97,107] P5) ?_;rintro _ wt hT;rcases hT with ⟨hsb,rfl,t6,l3,el6,h56,Pt,kt6,hz6⟩|⟨hsb,rfl,hww⟩
     ·have hpop:popP l1=.ok ((),l3):=by rw[el6];exact popP_cons h56
      have hsy:saysP l1=.ok (true,l3):=by
       unfold saysP pif;rw[hsb,if_pos rfl,pb_of hpop];rfl
      have Ct:=C5.kept kt6 (by omega);push_cast -dsimp;refine storeK_of Ct (by simp) rfl ?_;intro w6 hw6;have C6:Blk w6 w'.heap.size 60 [.int .i64 t1.pos,.bool true,.pointer none,.pointer none]:=hw6.blk;have P6:=Pt.kept hw6.kept (fun i h=>by omega);have k6:=(k5.trans kt6 (fun i _ h=>h)).trans hw6.kept (fun i h1 h2=>by omega);have kw6:=(kw5.trans kt6 (fun i _ h=>h)).trans hw6.kept (fun i h1 h2=>by omega);have z6:w5.heap.size≤w6.heap.size:=by have:=hw6.kept.size;have:=kt6.size;omega
      have d7:w6.cell? ⟨w'.heap.size,1,none⟩=some (.bool true):=C6.cell rfl;push_cast -dsimp[d7];refine callP_of (pat_c 9 0 (by omega) (by omega) pb B w6 l3 P6) ?_ ?_;rotate_left;·
       rintro ce we ⟨e,pos,he,ht,hke⟩
       push_cast -dsimp
       refine⟨e,pos,rul_err hcls hm2 hm hst h20 ?_,ht.mono (by have:=k6.size;omega),k6.trans hke (fun i _ h=>h)⟩
       rw[hrul]
       rw[pb_of hsy];exact pb_err he
      rintro u wa ⟨x1,l5,e5,Va,Pa,kta⟩;obtain⟨ub,rfl,hub,_⟩:=Va.ptr;have Ca:=C6.kept kta (by omega);have ka:=k6.trans kta (fun i _ h=>h);have za:=kta.size;push_cast -dsimp;refine storeK_of Ca (by simp) rfl ?_;intro wb hwb;have Cb:Blk wb w'.heap.size 60 [.int .i64 t1.pos,.bool true,ptrP ub,.pointer none]:=hwb.blk;have Pb:=Pa.kept hwb.kept (fun i h=>by omega);have kb:=ka.trans hwb.kept (fun i h1 h2=>by omega);have zb:=hwb.size;push_cast -dsimp;refine callP_of (must_c [58] Pb) ?_ ?_;rotate_left;·
       rintro ce we ⟨e,pos,he,ht,hke⟩
       push_cast -dsimp
       refine⟨e,pos,rul_err hcls hm2 hm hst h20 ?_,ht.mono (by have:=kb.size;omega),kb.trans hke (fun i _ h=>h)⟩
       rw[hrul]
       rw[pb_of hsy,pb_of e5];exact pb_err he
      rintro _ wc ⟨_,l6,e6,rfl,Pc',ktc⟩;have Cc:=Cb.kept ktc (by omega);have kc:=kb.trans ktc (fun i _ h=>h);have zc:=ktc.size;push_cast -dsimp;refine callP_of (pat_c 9 0 (by omega) (by omega) pb B wc l6 Pc') ?_ ?_;rotate_left;·
       rintro ce we ⟨e,pos,he,ht,hke⟩
       push_cast -dsimp
       refine⟨e,pos,rul_err hcls hm2 hm hst h20 ?_,ht.mono (by have:=kc.size;omega),kc.trans hke (fun i _ h=>h)⟩
       rw[hrul]
       rw[pb_of hsy,pb_of e5,pb_of e6];exact pb_err he
      rintro u wd ⟨x2,l7,e7,Vd,Pd,ktd⟩;obtain⟨vb,rfl,hvb,_⟩:=Vd.ptr;have Cd:=Cc.kept ktd (by omega);have kd:=kc.trans ktd (fun i _ h=>h);have zd:=ktd.size;push_cast -dsimp;refine storeK_of Cd (by simp) rfl ?_;intro we hwe;have Ce:Blk we w'.heap.size 60 [.int .i64 t1.pos,.bool true,ptrP ub,ptrP vb]:=hwe.blk;have Pe:=Pd.kept hwe.kept (fun i h=>by omega);have ke:=kd.trans hwe.kept (fun i h1 h2=>by omega);have ze:=hwe.size;push_cast -dsimp;refine callP_of (must_c [59] Pe) ?_ ?_;rotate_left;·
       rintro ce we ⟨e,pos,he,ht,hke⟩
       push_cast -dsimp
       refine⟨e,pos,rul_err hcls hm2 hm hst h20 ?_,ht.mono (by have:=ke.size;omega),ke.trans hke (fun i _ h=>h)⟩
       rw[hrul]
       rw[pb_of hsy,pb_of e5,pb_of e6,pb_of e7];exact pb_err he
      rintro _ wf ⟨_,l8,e8,rfl,Pf,ktf⟩;have Cf:=Ce.kept ktf (by omega);have kf:=ke.trans ktf (fun i _ h=>h);have zf:=ktf.size;have hok:ruleP l1=.ok (⟨t1.pos,true,x1,x2⟩,l8):=by rw[hrul,pb_of hsy,pb_of e5,pb_of e6,pb_of e7,pb_of e8];rfl
      have hl8:=sh_rule _ _ _ hok;have kw:Kept (fun i=>i=pb) w' wf:=((((((kw6.trans kta (fun i _ h=>h)).trans hwb.kept (fun i h1 h2=>by omega)).trans ktc (fun i _ h=>h)).trans ktd (fun i _ h=>h)).trans hwe.kept (fun i h1 h2=>by omega)).trans ktf (fun i _ h=>h));have hFf:=hF.kept kw (by omega);have hOf:=hO.keptX kw (fun g hg h=>by have:=(hO.block g hg).1;omega);have hob:∀g,rv.ownBlock=some g→V0.heap.size≤g∧g<w'.heap.size:=fun g hg=>hO.block g hg;have hVf:All2 (RulR (fun b=>(b<V0.heap.size∨rv.ownBlock=some b)∨w'.heap.size≤b) wf) rs acc2:=hV.imp fun a c h=>h.top.mono kw (fun i h=>by omega) (fun i h=>h);have hVx1:PatV (fun b=>b<w6.heap.size∨wa.heap.size≤b) wf (ptrP ub) x1:=(((Va.top.mono hwb.kept (X':=fun b=>b<w6.heap.size∨wa.heap.size≤b) (fun i h=>by omega) (fun i h=>h)).mono ktc (X':=fun b=>b<w6.heap.size∨wa.heap.size≤b) (fun i h=>by omega) (fun i h=>h)).mono ktd (X':=fun b=>b<w6.heap.size∨wa.heap.size≤b) (fun i h=>by omega) (fun i h=>h)).mono hwe.kept (X':=fun b=>b<w6.heap.size∨wa.heap.size≤b) (fun i h=>by omega) (fun i h=>h) |>.mono ktf (fun i h=>by omega) (fun i h=>h);have hVx2:PatV (fun b=>b<wc.heap.size∨wd.heap.size≤b) wf (ptrP vb) x2:=(Vd.top.mono hwe.kept (X':=fun b=>b<wc.heap.size∨wd.heap.size≤b) (fun i h=>by omega) (fun i h=>h)).mono ktf (fun i h=>by omega) (fun i h=>h);have df:wf.cell? ⟨w.heap.size+1,1,none⟩=some (.slice ra rs.length rc):=by rw[←hrv];exact hFf.cell rfl
      have dl:cellsAt wf ⟨w'.heap.size,0,none⟩ 0 4=some [.int .i64 t1.pos,.bool true,ptrP ub,ptrP vb]:=Cf.cellsAt;push_cast -dsimp[df,dl];refine rowK elI_23 rfl rfl (by omega) ?_;intro wg hwg;have hFg:=hFf.below hwg.below hFf.lt;have hOg:=hOf.new hwg;rw[hrv]at hOg;have Pg:=Pf.below hwg.below;have zg:=hwg.size;push_cast -dsimp;refine appendK2 (base:=V0.heap.size) [(t1.pos,true,ub,vb)] (enc:=encRu) elI_23 hOg (by rfl) (fun j y hy=>by simpa[encRu,ptrP] using hwg.cell hy) encRu_one (by rw[hcl];simp only[List.length_cons,List.length_nil];omega) (by omega) ?_;intro rv2 wh hOh hgh hne2;rw[←hrv]at hgh hne2;have kg:Kept (fun j=>rv.ownBlock=some j) wg wh:=Kept.grown hgh (fun _ h=>h);have hFh:=hFg.kept kg (fun h=>by have:=hob _ h;omega);have Ph:=Pg.kept kg (fun i h=>by have:=hob _ h;omega);have zh:=kg.size;obtain⟨a5,c5,rfl⟩:=hOh.slice;push_cast -dsimp;refine storeK_of hFh (by simp) rfl ?_;intro wi hwi;have hFi:Blk wi (w.heap.size+1) 25 [.slice ca cs.length cc,.slice a5 (rs++[(t1.pos,true,ub,vb)]).length c5,.bool true]:=hwi.blk;have hOi:=hOh.keptX hwi.kept (fun g hg h=>by have:=(hOh.block g hg).1;omega);have Pi:=Ph.kept hwi.kept (fun i h=>by omega);have kY:Kept (fun i=>i=w.heap.size+1∨rv.ownBlock=some i) wf wi:=((Kept.new (X:=fun i=>i=w.heap.size+1∨rv.ownBlock=some i) hwg).trans kg (fun i _ h=>.inr h)).trans hwi.kept (fun i _ h=>.inl h);have ki:=kf.trans kY (X:=(·=pb)) (fun i h1 h2=>by
       rcases h2 with h2|h2
       ·omega
       ·have:=hob _ h2;omega)
      have kv0:Kept (fun i=>i=pb∨i=w.heap.size+1∨rv.ownBlock=some i) w' wi:=(kw.weaken (Y:=fun i=>i=pb∨i=w.heap.size+1∨rv.ownBlock=some i) (fun i _ h=>.inl h)).trans kY (fun i _ h=>.inr h);have kv:=hkv.trans kv0 (fun i h1 h2=>by
       rcases h2 with h2|h2|h2
       ·exact .inl h2
       ·exact .inr h2
       ·have:=hob _ h2;omega)
      have zkw:=kw.size;have hVi:All2 (RulR (fun b=>b<V0.heap.size∨(Value.slice a5 (rs++[(t1.pos,true,ub,vb)]).length c5).ownBlock=some b) wi) (rs++[(t1.pos,true,ub,vb)]) (acc2++[⟨t1.pos,true,x1,x2⟩]):=by
       refine(hVf.imp fun a c h=>h.mono kY (fun i h=>?_) (fun i h=>?_)).snoc ⟨rfl,rfl,hVx1.mono kY (fun i h=>?_) (fun i h=>?_),hVx2.mono kY (fun i h=>?_) (fun i h=>?_)⟩
       ·rcases h with h|h
        ·exact .inl (.inl (by omega))
        ·exact .inl (.inr h)
       ·rcases h with h|h
        ·exact .inl (.inl h)
        ·rcases hne2 i h with h|h
         ·exact .inl (.inr h)
         ·exact .inr (by omega)
       ·rcases h with h|h
        ·exact .inl (by omega)
        ·have:=hob _ h;exact .inl (by omega)
       ·rcases h with h|h
        ·exact .inl (by omega)
        ·rcases hne2 i h with h|h
         ·have:=hob _ h;exact .inl (by omega)
         ·exact .inr (by omega)
       ·rcases h with h|h
        ·exact .inl (by omega)
        ·have:=hob _ h;exact .inl (by omega)
       ·rcases h with h|h
        ·exact .inl (by omega)
        ·rcases hne2 i h with h|h
         ·have:=hob _ h;exact .inl (by omega)
         ·exact .inr (by omega)
      have hnx:ruleLoop (m-1) (acc2++[⟨t1.pos,true,x1,x2⟩]) l8=ruleLoop 1000 [] lc:=by rw[rul_step hm2 hm hst h20,pb_of hok]
      have hPi:=Pi.len;push_cast -dsimp;exact⟨⟨m-1,acc2++[⟨t1.pos,true,x1,x2⟩],l8,_,_,hnx,by omega,by rw[List.length_append,List.length_singleton];omega,hFi,hOi,hVi,Pi,ki,kv⟩,by rw[hPi,hPl];exact hl8⟩
     ·obtain rfl:w5=wt:=hww.symm;push_cast -dsimp;refine storeK_of C5 (by simp) rfl ?_;intro wu hwu;have Cu:Blk wu w'.heap.size 60 [.int .i64 t1.pos,.bool false,.pointer none,.pointer none]:=hwu.blk;have Pu:=P5.kept hwu.kept (fun i h=>by omega);have ku:=k5.trans hwu.kept (fun i h1 h2=>by omega);have zu:=hwu.size;have du:wu.cell? ⟨w'.heap.size,1,none⟩=some (.bool false):=Cu.cell rfl;push_cast -dsimp[du];have hsy0:saysP l1=Cae.pb (mustP [107,101,101,112]) (fun _=>pr false) l1:=by
       unfold saysP pif;rw[hsb];rfl
      refine callP_of (must_c [107,101,101,112] Pu) ?_ ?_;rotate_left;·
       rintro ce we ⟨e,pos,he,ht,hke⟩
       push_cast -dsimp
       refine⟨e,pos,rul_err hcls hm2 hm hst h20 ?_,ht.mono (by have:=ku.size;omega),ku.trans hke (fun i _ h=>h)⟩
       rw[hrul]
       refine pb_err ?_;rw[hsy0];exact pb_err he
      rintro _ w6 ⟨_,l3,e3,rfl,P6,kt6⟩;have hsy:saysP l1=.ok (false,l3):=by rw[hsy0,pb_of e3];rfl
      have C6:=Cu.kept kt6 (by omega);have k6:=ku.trans kt6 (fun i _ h=>h);have kw6:=(kw5.trans hwu.kept (fun i h1 h2=>by omega)).trans kt6 (fun i _ h=>h);have z6:w5.heap.size≤w6.heap.size:=by have:=kt6.size;omega
      push_cast -dsimp;refine callP_of (pat_c 9 0 (by omega) (by omega) pb B w6 l3 P6) ?_ ?_;rotate_left;·
       rintro ce we ⟨e,pos,he,ht,hke⟩
       push_cast -dsimp
       refine⟨e,pos,rul_err hcls hm2 hm hst h20 ?_,ht.mono (by have:=k6.size;omega),k6.trans hke (fun i _ h=>h)⟩
       rw[hrul]
       rw[pb_of hsy];exact pb_err he
      rintro u wa ⟨x1,l5,e5,Va,Pa,kta⟩;obtain⟨ub,rfl,hub,_⟩:=Va.ptr;have Ca:=C6.kept kta (by omega);have ka:=k6.trans kta (fun i _ h=>h);have za:=kta.size;push_cast -dsimp;refine storeK_of Ca (by simp) rfl ?_;intro wb hwb;have Cb:Blk wb w'.heap.size 60 [.int .i64 t1.pos,.bool false,ptrP ub,.pointer none]:=hwb.blk;have Pb:=Pa.kept hwb.kept (fun i h=>by omega);have kb:=ka.trans hwb.kept (fun i h1 h2=>by omega);have zb:=hwb.size;push_cast -dsimp;refine callP_of (must_c [58] Pb) ?_ ?_;rotate_left;·
       rintro ce we ⟨e,pos,he,ht,hke⟩
       push_cast -dsimp
       refine⟨e,pos,rul_err hcls hm2 hm hst h20 ?_,ht.mono (by have:=kb.size;omega),kb.trans hke (fun i _ h=>h)⟩
       rw[hrul]
       rw[pb_of hsy,pb_of e5];exact pb_err he
      rintro _ wc ⟨_,l6,e6,rfl,Pc',ktc⟩;have Cc:=Cb.kept ktc (by omega);have kc:=kb.trans ktc (fun i _ h=>h);have zc:=ktc.size;push_cast -dsimp;refine callP_of (pat_c 9 0 (by omega) (by omega) pb B wc l6 Pc') ?_ ?_;rotate_left;·
       rintro ce we ⟨e,pos,he,ht,hke⟩
       push_cast -dsimp
       refine⟨e,pos,rul_err hcls hm2 hm hst h20 ?_,ht.mono (by have:=kc.size;omega),kc.trans hke (fun i _ h=>h)⟩
       rw[hrul]
       rw[pb_of hsy,pb_of e5,pb_of e6];exact pb_err he
      rintro u wd ⟨x2,l7,e7,Vd,Pd,ktd⟩;obtain⟨vb,rfl,hvb,_⟩:=Vd.ptr;have Cd:=Cc.kept ktd (by omega);have kd:=kc.trans ktd (fun i _ h=>h);have zd:=ktd.size;push_cast -dsimp;refine storeK_of Cd (by simp) rfl ?_;intro we hwe;have Ce:Blk we w'.heap.size 60 [.int .i64 t1.pos,.bool false,ptrP ub,ptrP vb]:=hwe.blk;have Pe:=Pd.kept hwe.kept (fun i h=>by omega);have ke:=kd.trans hwe.kept (fun i h1 h2=>by omega);have ze:=hwe.size;push_cast -dsimp;refine callP_of (must_c [59] Pe) ?_ ?_;rotate_left;·
       rintro ce we ⟨e,pos,he,ht,hke⟩
       push_cast -dsimp
       refine⟨e,pos,rul_err hcls hm2 hm hst h20 ?_,ht.mono (by have:=ke.size;omega),ke.trans hke (fun i _ h=>h)⟩
       rw[hrul]
       rw[pb_of hsy,pb_of e5,pb_of e6,pb_of e7];exact pb_err he
      rintro _ wf ⟨_,l8,e8,rfl,Pf,ktf⟩;have Cf:=Ce.kept ktf (by omega);have kf:=ke.trans ktf (fun i _ h=>h);have zf:=ktf.size;have hok:ruleP l1=.ok (⟨t1.pos,false,x1,x2⟩,l8):=by rw[hrul,pb_of hsy,pb_of e5,pb_of e6,pb_of e7,pb_of e8];rfl
      have hl8:=sh_rule _ _ _ hok;have kw:Kept (fun i=>i=pb) w' wf:=((((((kw6.trans kta (fun i _ h=>h)).trans hwb.kept (fun i h1 h2=>by omega)).trans ktc (fun i _ h=>h)).trans ktd (fun i _ h=>h)).trans hwe.kept (fun i h1 h2=>by omega)).trans ktf (fun i _ h=>h));have hFf:=hF.kept kw (by omega);have hOf:=hO.keptX kw (fun g hg h=>by have:=(hO.block g hg).1;omega);have hob:∀g,rv.ownBlock=some g→V0.heap.size≤g∧g<w'.heap.size:=fun g hg=>hO.block g hg;have hVf:All2 (RulR (fun b=>(b<V0.heap.size∨rv.ownBlock=some b)∨w'.heap.size≤b) wf) rs acc2:=hV.imp fun a c h=>h.top.mono kw (fun i h=>by omega) (fun i h=>h);have hVx1:PatV (fun b=>b<w6.heap.size∨wa.heap.size≤b) wf (ptrP ub) x1:=(((Va.top.mono hwb.kept (X':=fun b=>b<w6.heap.size∨wa.heap.size≤b) (fun i h=>by omega) (fun i h=>h)).mono ktc (X':=fun b=>b<w6.heap.size∨wa.heap.size≤b) (fun i h=>by omega) (fun i h=>h)).mono ktd (X':=fun b=>b<w6.heap.size∨wa.heap.size≤b) (fun i h=>by omega) (fun i h=>h)).mono hwe.kept (X':=fun b=>b<w6.heap.size∨wa.heap.size≤b) (fun i h=>by omega) (fun i h=>h) |>.mono ktf (fun i h=>by omega) (fun i h=>h);have hVx2:PatV (fun b=>b<wc.heap.size∨wd.heap.size≤b) wf (ptrP vb) x2:=(Vd.top.mono hwe.kept (X':=fun b=>b<wc.heap.size∨wd.heap.size≤b) (fun i h=>by omega) (fun i h=>h)).mono ktf (fun i h=>by omega) (fun i h=>h);have df:wf.cell? ⟨w.heap.size+1,1,none⟩=some (.slice ra rs.length rc):=by rw[←hrv];exact hFf.cell rfl
      have dl:cellsAt wf ⟨w'.heap.size,0,none⟩ 0 4=some [.int .i64 t1.pos,.bool false,ptrP ub,ptrP vb]:=Cf.cellsAt;push_cast -dsimp[df,dl];refine rowK elI_23 rfl rfl (by omega) ?_;intro wg hwg;have hFg:=hFf.below hwg.below hFf.lt;have hOg:=hOf.new hwg;rw[hrv]at hOg;have Pg:=Pf.below hwg.below;have zg:=hwg.size;push_cast -dsimp;refine appendK2 (base:=V0.heap.size) [(t1.pos,false,ub,vb)] (enc:=encRu) elI_23 hOg (by rfl) (fun j y hy=>by simpa[encRu,ptrP] using hwg.cell hy) encRu_one (by rw[hcl];simp only[List.length_cons,List.length_nil];omega) (by omega) ?_;intro rv2 wh hOh hgh hne2;rw[←hrv]at hgh hne2;have kg:Kept (fun j=>rv.ownBlock=some j) wg wh:=Kept.grown hgh (fun _ h=>h);have hFh:=hFg.kept kg (fun h=>by have:=hob _ h;omega);have Ph:=Pg.kept kg (fun i h=>by have:=hob _ h;omega);have zh:=kg.size;obtain⟨a5,c5,rfl⟩:=hOh.slice;push_cast -dsimp;refine storeK_of hFh (by simp) rfl ?_;intro wi hwi;have hFi:Blk wi (w.heap.size+1) 25 [.slice ca cs.length cc,.slice a5 (rs++[(t1.pos,false,ub,vb)]).length c5,.bool true]:=hwi.blk;have hOi:=hOh.keptX hwi.kept (fun g hg h=>by have:=(hOh.block g hg).1;omega);have Pi:=Ph.kept hwi.kept (fun i h=>by omega);have kY:Kept (fun i=>i=w.heap.size+1∨rv.ownBlock=some i) wf wi:=((Kept.new (X:=fun i=>i=w.heap.size+1∨rv.ownBlock=some i) hwg).trans kg (fun i _ h=>.inr h)).trans hwi.kept (fun i _ h=>.inl h);have ki:=kf.trans kY (X:=(·=pb)) (fun i h1 h2=>by
       rcases h2 with h2|h2
       ·omega
       ·have:=hob _ h2;omega)
      have kv0:Kept (fun i=>i=pb∨i=w.heap.size+1∨rv.ownBlock=some i) w' wi:=(kw.weaken (Y:=fun i=>i=pb∨i=w.heap.size+1∨rv.ownBlock=some i) (fun i _ h=>.inl h)).trans kY (fun i _ h=>.inr h);have kv:=hkv.trans kv0 (fun i h1 h2=>by
       rcases h2 with h2|h2|h2
       ·exact .inl h2
       ·exact .inr h2
       ·have:=hob _ h2;omega)
      have zkw:=kw.size;have hVi:All2 (RulR (fun b=>b<V0.heap.size∨(Value.slice a5 (rs++[(t1.pos,false,ub,vb)]).length c5).ownBlock=some b) wi) (rs++[(t1.pos,false,ub,vb)]) (acc2++[⟨t1.pos,false,x1,x2⟩]):=by
       refine(hVf.imp fun a c h=>h.mono kY (fun i h=>?_) (fun i h=>?_)).snoc ⟨rfl,rfl,hVx1.mono kY (fun i h=>?_) (fun i h=>?_),hVx2.mono kY (fun i h=>?_) (fun i h=>?_)⟩
       ·rcases h with h|h
        ·exact .inl (.inl (by omega))
        ·exact .inl (.inr h)
       ·rcases h with h|h
        ·exact .inl (.inl h)
        ·rcases hne2 i h with h|h
         ·exact .inl (.inr h)
         ·exact .inr (by omega)
       ·rcases h with h|h
        ·exact .inl (by omega)
        ·have:=hob _ h;exact .inl (by omega)
       ·rcases h with h|h
        ·exact .inl (by omega)
        ·rcases hne2 i h with h|h
         ·have:=hob _ h;exact .inl (by omega)
         ·exact .inr (by omega)
       ·rcases h with h|h
        ·exact .inl (by omega)
        ·have:=hob _ h;exact .inl (by omega)
       ·rcases h with h|h
        ·exact .inl (by omega)
        ·rcases hne2 i h with h|h
         ·have:=hob _ h;exact .inl (by omega)
         ·exact .inr (by omega)
      have hnx:ruleLoop (m-1) (acc2++[⟨t1.pos,false,x1,x2⟩]) l8=ruleLoop 1000 [] lc:=by rw[rul_step hm2 hm hst h20,pb_of hok]
      have hPi:=Pi.len;push_cast -dsimp;exact⟨⟨m-1,acc2++[⟨t1.pos,false,x1,x2⟩],l8,_,_,hnx,by omega,by rw[List.length_append,List.length_singleton];omega,hFi,hOi,hVi,Pi,ki,kv⟩,by rw[hPi,hPl];exact hl8⟩
   | false =>
    have hst:ruleStart l1=false:=by rw[hrs,hs2]
    have hrl:=rul_end hm2 hm hst;have hfl0:fileP l0=Cae.pb elseP (fun b=>pr ⟨acc,acc2,b⟩) l1:=by
     unfold fileP;rw[pb_of hcls,pb_of hrl]
    push_cast -dsimp;refine callK_of (take_c [101,108,115,101] hP) ?_;rintro _ w3' hT;rcases hT with ⟨hse,rfl,t3,l3,el3,h53,P3',kt3,hz3⟩|⟨hse,rfl,hww⟩
    ·have hpop:popP l1=.ok ((),l3):=by rw[el3];exact popP_cons h53
     have hels:elseP l1=Cae.pb saysP (fun b=>Cae.pb (mustP [59]) fun _=>pr b) l3:=by
      unfold elseP pif;rw[hse,if_pos rfl,pb_of hpop]
     have F3':=hF.kept kt3 (by omega);have k3':=hk.trans kt3 (fun i _ h=>h);have y3':Kept (fun i=>i=pb∨i=w.heap.size+1) w' w3':=kt3.weaken (fun i _ h=>.inl h);push_cast -dsimp;refine callK_of (take_c [98,114,101,97,107] P3') ?_;rintro _ w4' hT;rcases hT with ⟨hsb,rfl,t4,l4,el4,h54,P4',kt4,hz4⟩|⟨hsb,rfl,hww⟩
     ·have hpop4:popP l3=.ok ((),l4):=by rw[el4];exact popP_cons h54
      have hsy:saysP l3=.ok (true,l4):=by
       unfold saysP pif;rw[hsb,if_pos rfl,pb_of hpop4];rfl
      have F4':=F3'.kept kt4 (by omega);push_cast -dsimp;refine storeK_of F4' (by simp) rfl ?_;intro w5 hw5;have F5:Blk w5 (w.heap.size+1) 25 [.slice ca cs.length cc,rv,.bool true]:=hw5.blk;have P5:=P4'.kept hw5.kept (fun i h=>by omega);have k5:=(k3'.trans kt4 (fun i _ h=>h)).trans hw5.kept (fun i h1 h2=>by omega);have y5:=(y3'.trans kt4 (fun i _ h=>.inl h)).trans hw5.kept (fun i _ h=>.inr h);have d5:w5.cell? ⟨w.heap.size+1,2,none⟩=some (.bool true):=F5.cell rfl;push_cast -dsimp[d5];refine callP_of (must_c [59] P5) ?_ ?_;rotate_left;·
       rintro ce we ⟨e,pos,he,ht,hke⟩
       push_cast -dsimp
       refine⟨e,pos,?_,ht.mono (by have:=k5.size;omega),k5.trans hke (fun i _ h=>h)⟩
       rw[hfl0]
       refine pb_err ?_
       rw[hels]
       rw[pb_of hsy];exact pb_err he
      rintro _ w6 ⟨_,l5,e5,rfl,Px,kt6⟩;have hFx:=F5.kept kt6 (by omega);have kx:=k5.trans kt6 (fun i _ h=>h);have ky:=y5.trans kt6 (fun i _ h=>.inl h);have hfile:fileP l0=.ok (⟨acc,acc2,true⟩,l5):=by rw[hfl0,pb_of (show elseP l1=.ok (true,l5) by rw[hels,pb_of hsy,pb_of e5];rfl)];rfl
      push_cast -dsimp;have kvx:=hkv.trans ky (fun i _ h=>h);have hRx:=hR.kept kvx (by omega);have d3:cellsAt w6 ⟨w.heap.size+1,0,none⟩ 0 3=some [.slice ca cs.length cc,rv,.bool true]:=hFx.cellsAt;rw[hrv]at d3;push_cast -dsimp[d3];refine storeAgg (xt:=25) (n:=3) (by kernel_rfl) hRx rfl (by decide) (by simp;exact⟨rfl,rfl,rfl⟩) ?_;intro wz hwz;have hRz:Blk wz w.heap.size 25 [.slice ca cs.length cc,.slice ra rs.length rc,.bool true]:=hwz.blk;have dz:cellsAt wz ⟨w.heap.size,0,none⟩ 0 3=some [.slice ca cs.length cc,.slice ra rs.length rc,.bool true]:=hRz.cellsAt;have Pz:=Px.kept hwz.kept (fun i h=>by omega);have kz:=kx.trans hwz.kept (X:=(·=pb)) (fun i h1 h2=>by omega);have kvz:Kept (fun i=>i<w.heap.size+2) V0 wz:=(kvx.weaken (Y:=fun i=>i<w.heap.size+2) (fun i _ h=>by omega)).trans hwz.kept (fun i _ h=>by omega);have kyz:Kept (fun i=>i<w.heap.size+2) w' wz:=(ky.weaken (Y:=fun i=>i<w.heap.size+2) (fun i _ h=>by omega)).trans hwz.kept (fun i _ h=>by omega);have s1:Sl (·<w.heap.size) 3 (En encC) wz (.slice ca cs.length cc) cs:=by
       have hh:=(hOc.keptX kvz (fun g hg h=>by have:=(hOc.block g hg).1;omega)).sl;rw[hcv']at hh;exact hh.weaken (fun i h=>by omega)
      have s2:Sl (·<w.heap.size) 4 (En encRu) wz (.slice ra rs.length rc) rs:=by
       have hh:=(hO.keptX kyz (fun g hg h=>by have:=(hO.block g hg).1;omega)).sl;rw[hrv]at hh;exact hh.weaken (fun i h=>by omega)
      have a1:All2 (ClsR (·<w.heap.size) wz) cs acc:=hVc.imp fun a c h=>h.mono kvz (fun i h=>.inl h) (fun i h=>.inl (by omega));have a2:All2 (RulR (·<w.heap.size) wz) rs acc2:=hV.imp fun a c h=>h.mono kyz (fun i h=>.inl (by omega)) (fun i h=>.inl (by omega));push_cast -dsimp[dz];exact⟨_,_,hfile,⟨_,_,cs,rs,rfl,s1,s2,a1,a2⟩,Pz,kz⟩
     ·obtain rfl:w3'=w4':=hww.symm;push_cast -dsimp;refine storeK_of F3' (by simp) rfl ?_;intro wu hwu;have Fu:Blk wu (w.heap.size+1) 25 [.slice ca cs.length cc,rv,.bool false]:=hwu.blk;have Pu:=P3'.kept hwu.kept (fun i h=>by omega);have ku:=k3'.trans hwu.kept (fun i h1 h2=>by omega);have yu:=y3'.trans hwu.kept (fun i _ h=>.inr h);have du:wu.cell? ⟨w.heap.size+1,2,none⟩=some (.bool false):=Fu.cell rfl;have hsy0:saysP l3=Cae.pb (mustP [107,101,101,112]) (fun _=>pr false) l3:=by
       unfold saysP pif;rw[hsb];rfl
      push_cast -dsimp[du];refine callP_of (must_c [107,101,101,112] Pu) ?_ ?_;rotate_left;·
       rintro ce we ⟨e,pos,he,ht,hke⟩
       push_cast -dsimp
       refine⟨e,pos,?_,ht.mono (by have:=ku.size;omega),ku.trans hke (fun i _ h=>h)⟩
       rw[hfl0]
       refine pb_err ?_
       rw[hels]
       refine pb_err ?_;rw[hsy0];exact pb_err he
      rintro _ w5 ⟨_,l4,e4,rfl,P5,kt5⟩;have hsy:saysP l3=.ok (false,l4):=by rw[hsy0,pb_of e4];rfl
      have F5:=Fu.kept kt5 (by omega);have k5:=ku.trans kt5 (fun i _ h=>h);have y5:=yu.trans kt5 (fun i _ h=>.inl h);push_cast -dsimp;refine callP_of (must_c [59] P5) ?_ ?_;rotate_left;·
       rintro ce we ⟨e,pos,he,ht,hke⟩
       push_cast -dsimp
       refine⟨e,pos,?_,ht.mono (by have:=k5.size;omega),k5.trans hke (fun i _ h=>h)⟩
       rw[hfl0]
       refine pb_err ?_
       rw[hels]
       rw[pb_of hsy];exact pb_err he
      rintro _ w6 ⟨_,l5,e5,rfl,Px,kt6⟩;have hFx:=F5.kept kt6 (by omega);have kx:=k5.trans kt6 (fun i _ h=>h);have ky:=y5.trans kt6 (fun i _ h=>.inl h);have hfile:fileP l0=.ok (⟨acc,acc2,false⟩,l5):=by rw[hfl0,pb_of (show elseP l1=.ok (false,l5) by rw[hels,pb_of hsy,pb_of e5];rfl)];rfl
      push_cast -dsimp;have kvx:=hkv.trans ky (fun i _ h=>h);have hRx:=hR.kept kvx (by omega);have d3:cellsAt w6 ⟨w.heap.size+1,0,none⟩ 0 3=some [.slice ca cs.length cc,rv,.bool false]:=hFx.cellsAt;rw[hrv]at d3;push_cast -dsimp[d3];refine storeAgg (xt:=25) (n:=3) (by kernel_rfl) hRx rfl (by decide) (by simp;exact⟨rfl,rfl,rfl⟩) ?_;intro wz hwz;have hRz:Blk wz w.heap.size 25 [.slice ca cs.length cc,.slice ra rs.length rc,.bool false]:=hwz.blk;have dz:cellsAt wz ⟨w.heap.size,0,none⟩ 0 3=some [.slice ca cs.length cc,.slice ra rs.length rc,.bool false]:=hRz.cellsAt;have Pz:=Px.kept hwz.kept (fun i h=>by omega);have kz:=kx.trans hwz.kept (X:=(·=pb)) (fun i h1 h2=>by omega);have kvz:Kept (fun i=>i<w.heap.size+2) V0 wz:=(kvx.weaken (Y:=fun i=>i<w.heap.size+2) (fun i _ h=>by omega)).trans hwz.kept (fun i _ h=>by omega);have kyz:Kept (fun i=>i<w.heap.size+2) w' wz:=(ky.weaken (Y:=fun i=>i<w.heap.size+2) (fun i _ h=>by omega)).trans hwz.kept (fun i _ h=>by omega);have s1:Sl (·<w.heap.size) 3 (En encC) wz (.slice ca cs.length cc) cs:=by
       have hh:=(hOc.keptX kvz (fun g hg h=>by have:=(hOc.block g hg).1;omega)).sl;rw[hcv']at hh;exact hh.weaken (fun i h=>by omega)
      have s2:Sl (·<w.heap.size) 4 (En encRu) wz (.slice ra rs.length rc) rs:=by
       have hh:=(hO.keptX kyz (fun g hg h=>by have:=(hO.block g hg).1;omega)).sl;rw[hrv]at hh;exact hh.weaken (fun i h=>by omega)
      have a1:All2 (ClsR (·<w.heap.size) wz) cs acc:=hVc.imp fun a c h=>h.mono kvz (fun i h=>.inl h) (fun i h=>.inl (by omega));have a2:All2 (RulR (·<w.heap.size) wz) rs acc2:=hV.imp fun a c h=>h.mono kyz (fun i h=>.inl (by omega)) (fun i h=>.inl (by omega));push_cast -dsimp[dz];exact⟨_,_,hfile,⟨_,_,cs,rs,rfl,s1,s2,a1,a2⟩,Pz,kz⟩
    ·obtain rfl:w'=w3':=hww.symm;have hFx:=hF;have Px:=hP;have kx:=hk;have ky:Kept (fun i=>i=pb∨i=w.heap.size+1) w' w':=Kept.refl _ _;have hfile:fileP l0=.ok (⟨acc,acc2,true⟩,l1):=by
      rw[hfl0,pb_of (show elseP l1=.ok (true,l1) by unfold elseP pif;rw[hse];rfl)]
      rfl
     push_cast -dsimp;have kvx:=hkv.trans ky (fun i _ h=>h);have hRx:=hR.kept kvx (by omega);have d3:cellsAt w' ⟨w.heap.size+1,0,none⟩ 0 3=some [.slice ca cs.length cc,rv,.bool true]:=hFx.cellsAt;rw[hrv]at d3;push_cast -dsimp[d3];refine storeAgg (xt:=25) (n:=3) (by kernel_rfl) hRx rfl (by decide) (by simp;exact⟨rfl,rfl,rfl⟩) ?_;intro wz hwz;have hRz:Blk wz w.heap.size 25 [.slice ca cs.length cc,.slice ra rs.length rc,.bool true]:=hwz.blk;have dz:cellsAt wz ⟨w.heap.size,0,none⟩ 0 3=some [.slice ca cs.length cc,.slice ra rs.length rc,.bool true]:=hRz.cellsAt;have Pz:=Px.kept hwz.kept (fun i h=>by omega);have kz:=kx.trans hwz.kept (X:=(·=pb)) (fun i h1 h2=>by omega);have kvz:Kept (fun i=>i<w.heap.size+2) V0 wz:=(kvx.weaken (Y:=fun i=>i<w.heap.size+2) (fun i _ h=>by omega)).trans hwz.kept (fun i _ h=>by omega);have kyz:Kept (fun i=>i<w.heap.size+2) w' wz:=(ky.weaken (Y:=fun i=>i<w.heap.size+2) (fun i _ h=>by omega)).trans hwz.kept (fun i _ h=>by omega);have s1:Sl (·<w.heap.size) 3 (En encC) wz (.slice ca cs.length cc) cs:=by
      have hh:=(hOc.keptX kvz (fun g hg h=>by have:=(hOc.block g hg).1;omega)).sl;rw[hcv']at hh;exact hh.weaken (fun i h=>by omega)
     have s2:Sl (·<w.heap.size) 4 (En encRu) wz (.slice ra rs.length rc) rs:=by
      have hh:=(hO.keptX kyz (fun g hg h=>by have:=(hO.block g hg).1;omega)).sl;rw[hrv]at hh;exact hh.weaken (fun i h=>by omega)
     have a1:All2 (ClsR (·<w.heap.size) wz) cs acc:=hVc.imp fun a c h=>h.mono kvz (fun i h=>.inl h) (fun i h=>.inl (by omega));have a2:All2 (RulR (·<w.heap.size) wz) rs acc2:=hV.imp fun a c h=>h.mono kyz (fun i h=>.inl (by omega)) (fun i h=>.inl (by omega));push_cast -dsimp[dz];exact⟨_,_,hfile,⟨_,_,cs,rs,rfl,s1,s2,a1,a2⟩,Pz,kz⟩
end Go.Proofs.YtodeeahdhnjpkaaGreatDoor
end
section
namespace Cae
theorem runP_cons (f:UInt8→Bool)(c:UInt8)(r:List UInt8):runP f (c::r)=if f c then runP f r+1 else 0:=by
 unfold runP;rw[List.takeWhile_cons];split<;>rfl
theorem runP_at:∀(f:UInt8→Bool) (s:List UInt8) (n:Nat),n≤s.length→(∀i,i<n→f (s.getD i 0)=true)→(n=s.length∨f (s.getD n 0)=false)→runP f s=n
 | f,[],n,h,_,_=>by
  have:n=0:=by simpa using h
  subst this;rfl
 | f,c::r,0,_,_,h=>by
  rw[runP_cons];rcases h with h|h
  ·simp at h
  ·have:f c=false:=h;rw[this];rfl
 | f,c::r,n+1,h,ha,hb=>by
  rw[runP_cons,if_pos (show f c=true from ha 0 (by omega)),runP_at f r n (by simpa using h) (fun i hi=>ha (i+1) (by omega)) (hb.imp (fun e=>by simpa using e) (fun e=>e))]
theorem ib_run {s:List UInt8}{c:UInt8}:Go.Lib.indexByte s c+1=if s.contains c then ((runP (· != c) s+1:Nat):Int) else 0:=by
 rw[ib_spec];split<;>simp[runP]
theorem tk_num {i:Nat}{s:List UInt8}{l:List Cae.Tok}(h:Tk i s l):∀t∈l,t.kind=2→t.text≠[]∧∀c∈t.text,digitP c=true:=by
 induction h with
 | nil i=>simp
 | blank _ _ ih=>exact ih
 | note _ _ _ ih=>exact ih
 | @tok i c r l h1 h2 h3 hl ih =>
  intro t ht hk;rcases List.mem_cons.1 ht with rfl|ht
  ·rw[nextT_cons]at hk h3;simp only[nextT_cons];by_cases a1:letterP c=true
   ·rw[if_pos a1]at hk;cases hk
   ·rw[if_neg a1]at hk h3 ⊢
    by_cases a2:digitP c=true
    ·rw[if_pos a2]at h3 ⊢
     have e:(c::r).take (runP digitP (c::r))=(c::r).takeWhile digitP:=take_tw digitP (c::r)
     show (c::r).take (runP digitP (c::r))≠[]∧_
     rw[e];refine⟨fun hh=>?_,fun x hx=>?_⟩
     ·rw[List.takeWhile_cons,if_pos a2]at hh;cases hh
     ·exact List.all_eq_true.1 (List.all_takeWhile (p:=digitP) (l:=c::r)) x hx
    ·rw[if_neg a2]at hk;split at hk
     ·cases hk
     ·split at hk<;>cases hk
  ·exact ih t ht hk
end Cae
namespace Go.Proofs.YtodeeahdhnjpkaaGreatDoor
open Go.Vc Go.Proofs Go.RowKit Cae
attribute [local irreducible] wpL callK valK unitK runK Fun Sl Vc.Own vc vcOps opK pureK
theorem letter_c (c:UInt8)(w:World):Fun Tryz.prog 86 [.int .u8 c.toNat] w fun r w'=>r=.bool (letterP c)∧w'=w:=by
 have h:letterP c=(decide (97≤c.toNat) && decide (c.toNat≤122)):=rfl;refine fun_of_vc Tryz.func86 rfl (by kernel_rfl) [2] rfl ?_;push_cast -dsimp(maxSteps:=4000000) [Tryz.ntmps86];refine⟨fun h1=>?_,fun h1=>?_⟩
 ·rw[h,decide_eq_true (show 97≤c.toNat by omega),Bool.true_and]
  congr 1;exact decide_eq_decide.2 (by omega)
 ·rw[h,decide_eq_false (show ¬97≤c.toNat by omega)];rfl
theorem digit_c (c:UInt8)(w:World):Fun Tryz.prog 88 [.int .u8 c.toNat] w fun r w'=>r=.bool (digitP c)∧w'=w:=by
 have h:digitP c=(decide (48≤c.toNat) && decide (c.toNat≤57)):=rfl;refine fun_of_vc Tryz.func88 rfl (by kernel_rfl) [2] rfl ?_;push_cast -dsimp(maxSteps:=4000000) [Tryz.ntmps88];refine⟨fun h1=>?_,fun h1=>?_⟩
 ·rw[h,decide_eq_true (show 48≤c.toNat by omega),Bool.true_and]
  congr 1;exact decide_eq_decide.2 (by omega)
 ·rw[h,decide_eq_false (show ¬48≤c.toNat by omega)];rfl
theorem letdig_c (c:UInt8)(w:World):Fun Tryz.prog 87 [.int .u8 c.toNat] w fun r w'=>r=.bool (letterP c || digitP c)∧w'=w:=by
 refine fun_of_vc Tryz.func87 rfl (by kernel_rfl) [2] rfl ?_;push_cast -dsimp(maxSteps:=4000000) [Tryz.ntmps87];refine callK_of (letter_c c w) ?_;rintro _ _ ⟨rfl,rfl⟩;cases letterP c with
 | true =>
  push_cast -dsimp;rfl
 | false =>
  push_cast -dsimp;refine callK_of (digit_c c _) ?_;rintro _ _ ⟨rfl,rfl⟩;push_cast -dsimp
theorem noline_c (c:UInt8)(w:World):Fun Tryz.prog 54 [.int .u8 c.toNat] w fun r w'=>r=.bool (c != 10)∧w'=w:=by
 refine fun_of_vc Tryz.func54 rfl (by kernel_rfl) [2] rfl ?_;push_cast -dsimp(maxSteps:=4000000) [Tryz.ntmps54];congr 1;rw[bne,beq_dec];have:(((c.toNat:Nat):Int)=10)↔c=10:=by
  constructor
  ·intro h;exact UInt8.toNat_inj.1 (by show c.toNat=10;omega)
  ·rintro rfl;rfl
 by_cases h:c=10
 ·rw[decide_eq_true h,decide_eq_false (show ¬((c.toNat:Nat):Int)≠10 from fun hh=>hh (this.2 h))];rfl
 ·rw[decide_eq_false h,decide_eq_true (show ((c.toNat:Nat):Int)≠10 from fun hh=>h (this.1 hh))];rfl
def indexByteR_ren:Go.Shelf.Ren:=⟨fun|217=>107|266=>144|n=>n,fun|9=>9|5=>5|3=>3|n=>n,fun|n=>n⟩
theorem indexByteR:Go.Proofs.Lays.n217 Tryz.prog indexByteR_ren:={
 mixed:=by kernel_rfl
 f217:=Tryz.func107.trans (congrArg some (by kernel_rfl))
 f266:=Tryz.func144.trans (congrArg some (by kernel_rfl))
 t3:=Tryz.underlying3
 a3:=Tryz.isAgg3
 z3:=Tryz.sizeOf3
 v3:=Tryz.zeroValue3
 t5:=Tryz.underlying5
 a5:=Tryz.isAgg5
 z5:=Tryz.sizeOf5
 v5:=Tryz.zeroValue5
 t9:=Tryz.underlying9
 a9:=Tryz.isAgg9
 z9:=Tryz.sizeOf9
 v9:=Tryz.zeroValue9 }
theorem indexByteI_c (s:List UInt8)(c:UInt8)(w:World):Fun Tryz.prog 107 [str s,.int .u8 c.toNat] w fun r w'=>r=.int .i64 (Lib.indexByte s c)∧w'=w:=by
 refine fun_of_calls Tryz.func107 (by kernel_rfl) (by kernel_rfl) ?_;refine Calls.mono (Any.stringslite_IndexByte indexByteR ⟨s.toArray⟩ c.toNat w) ?_;rintro e w' ⟨rfl,rfl⟩;exact⟨_,rfl,by simp,rfl⟩
theorem indexByte_c (s:List UInt8)(c:UInt8)(w:World):Fun Tryz.prog 89 [str s,.int .u8 c.toNat] w fun r w'=>r=.int .i64 (Lib.indexByte s c)∧w'=w:=by
 refine fun_of_vc Tryz.func89 rfl (by kernel_rfl) [4] rfl ?_;push_cast -dsimp(maxSteps:=4000000) [Tryz.ntmps89];refine callK_of (indexByteI_c s c w) ?_;rintro _ _ ⟨rfl,rfl⟩;push_cast -dsimp
theorem run_c (f:FuncId)(g:UInt8→Bool)(hf:∀(c:UInt8) (w:World),Fun Tryz.prog f [.int .u8 c.toNat] w fun r w'=>r=.bool (g c)∧w'=w)(s:List UInt8)(hs:s.length≤1000000000)(w:World) :
  Fun Tryz.prog 53 [str s,.func (.func f) #[] #[]] w fun r w'=>r=.int .i64 (runP g s:Nat)∧w'=w:=by
 refine fun_of_vc Tryz.func53 rfl (by kernel_rfl) [4] rfl ?_;push_cast -dsimp(maxSteps:=4000000) [Tryz.ntmps53];refine wpL_loop [5,6,7,8,9,10,11,12,13,14,15,16,17,18] (fun z w'=>∃n:Nat,z 5=.int .i64 n∧n≤s.length∧(∀i,i<n→g (s.getD i 0)=true)∧w'=w) (fun z w'=>s.length-(intOf (z 5)).toNat) ?_ ?_
 ·exact⟨0,rfl,Nat.zero_le _,fun i hi=>by omega,rfl⟩
 rintro z w' ⟨n,hz,hn,hall,rfl⟩;have hint:(intOf (z 5)).toNat=n:=by rw[hz];simp[intOf]
 push_cast -dsimp[hz];refine⟨fun hlt=>⟨⟨by omega,by omega⟩,?_⟩,fun hge=>?_⟩
 ·refine callK_of (hf (s.getD n 0) w') ?_;rintro _ _ ⟨rfl,rfl⟩;cases hg:g (s.getD n 0) with
  | true =>
   push_cast -dsimp[hz];refine⟨⟨by omega,by omega⟩,⟨n+1,rfl,by omega,fun i hi=>?_⟩,?_⟩
   ·by_cases h:i<n
    ·exact hall i h
    ·rw[show i=n by omega];exact hg
   ·simp only[intOf];omega
  | false =>
   push_cast -dsimp[hz];rw[runP_at g s n hn hall (.inr hg)]
 ·rw[runP_at g s n hn hall (.inl (by omega))]
theorem next_c (c:UInt8)(r:List UInt8)(hs:(c::r).length≤1000000000)(w:World):Fun Tryz.prog 55 [str (c::r)] w fun v w'=>v=.tuple #[.int .i64 ((nextT (c::r)).1:Nat),.int .i64 ((nextT (c::r)).2:Nat)]∧w'=w:=by
 have hn:=nextT_cons c r;refine fun_of_vc Tryz.func55 rfl (by kernel_rfl) [2,3] rfl ?_;push_cast -dsimp(maxSteps:=4000000) [Tryz.ntmps55];have e0:((c::r).getD 0 0)=c:=rfl;refine⟨by omega,?_⟩;refine callK_of (letter_c c w) ?_;rintro _ _ ⟨rfl,rfl⟩;cases h1:letterP c with
 | true =>
  rw[h1,if_pos rfl]at hn;push_cast -dsimp;refine callK_of (run_c _ (fun c=>letterP c || digitP c) letdig_c (c::r) hs _) ?_;rintro _ _ ⟨rfl,rfl⟩;push_cast -dsimp;rw[hn];rfl
 | false =>
  rw[h1,if_neg (by decide)]at hn;push_cast -dsimp;refine callK_of (digit_c c _) ?_;rintro _ _ ⟨rfl,rfl⟩;cases h2:digitP c with
  | true =>
   rw[h2,if_pos rfl]at hn;push_cast -dsimp;refine callK_of (run_c _ digitP digit_c (c::r) hs _) ?_;rintro _ _ ⟨rfl,rfl⟩;push_cast -dsimp;rw[hn];rfl
  | false =>
   rw[h2,if_neg (by decide)]at hn;have h91:(((c.toNat:Nat):Int)=91)↔c=91:=by
    constructor
    ·intro h;exact UInt8.toNat_inj.1 (by show c.toNat=91;omega)
    ·rintro rfl;rfl
   push_cast -dsimp;refine⟨fun h3=>?_,fun h3=>?_⟩
   ·rw[if_pos (h91.1 h3)]at hn;refine callK_of (indexByte_c (c::r) 93 _) ?_;rintro _ _ ⟨rfl,rfl⟩;have hr:=runP_le (· != 93) (c::r);have hib:Lib.indexByte (c::r) 93+1=(((nextT (c::r)).2:Nat):Int):=by
     rw[ib_run,hn];split<;>rfl
    push_cast -dsimp;refine⟨?_,?_⟩
    ·rw[hib];have:=nextT_le c r;omega
    ·rw[hib,hn];rfl
   ·rw[if_neg (fun h=>h3 (h91.2 h))]at hn;refine callK_of (indexByte_c markL c _) ?_;rintro _ _ ⟨rfl,rfl⟩;have hib:(0≤Lib.indexByte markL c)↔markL.contains c=true:=by
     rw[ib_spec];split
     ·rename_i h;exact⟨fun _=>h,fun _=>by omega⟩
     ·rename_i h;exact⟨fun hh=>by omega,fun hh=>absurd hh h⟩
    push_cast -dsimp;refine⟨fun h=>?_,fun h=>?_⟩
    ·rw[if_pos (hib.1 h)]at hn;rw[hn];rfl
    ·rw[if_neg (fun hh=>h (hib.2 hh))]at hn;rw[hn];rfl
theorem encTok_one (t:Cae.Tok):∀u∈encTok t,u.oneCell'=true:=by
 intro u hu;simp[encTok]at hu;rcases hu with rfl|rfl|rfl<;>rfl
def TokR (w:World)(s:List UInt8)(r:Value)(w':World):Prop :=
 (∃l v,tokP s=.ok l∧r=.tuple #[v,.nilIface]∧Go.Vc.Own w.heap.size 91 3 encTok w' v l) ∨
 (∃e pos b,tokP s=.error (e,pos)∧r=.tuple #[.slice none 0 0,.iface 96 (.pointer (some ⟨b,0,none⟩))]∧w.heap.size≤b∧Blk w' b 97 [.int .i64 e,.int .i64 pos])
theorem tokens_c (s:List UInt8)(hs:s.length≤1000000)(w:World):Fun Tryz.prog 31 [str s] w fun r w'=>TokR w s r w'∧Below w.heap.size w w':=by
 refine fun_of_vc Tryz.func31 rfl (by kernel_rfl) [2,3] rfl ?_;push_cast -dsimp(maxSteps:=4000000) [Tryz.ntmps31];refine wpL_loop [2,3,4,5,6,7,8,9,10,11,12,13,14,15,16,17,18,19,20,21,22,23,24,25,26,27,28,29,30,31,32,33,34,35,36,37,38,39,40,41,42,43,44,45,46,47,48,49,50,51,52,53,54,55,56,57,58,59,60,61,62,63,64] (fun z w'=>∃(m i:Nat) (acc:List Cae.Tok) (v:Value),z 5=.int .i64 i∧z 4=v∧i≤s.length∧(s.drop i).length<m∧acc.length≤500∧tokLoop m i (s.drop i) acc=tokP s∧Go.Vc.Own w.heap.size 91 3 encTok w' v acc∧Below w.heap.size w w') (fun z w'=>s.length-(intOf (z 5)).toNat) ?_ ?_
 ·exact⟨s.length+1,0,[],_,rfl,rfl,Nat.zero_le _,by simp,by simp,rfl,Vc.Own.nil (enc:=encTok) _ _ (fun _=>rfl) _,Below.refl _ _⟩
 rintro z w' ⟨m,i,acc,v,hz5,hz4,hi,hm,hacc,hm2,hO,hb⟩;obtain⟨m',rfl⟩:∃m',m=m'+1:=⟨m-1,by omega⟩;have hzb:=hb.size;obtain⟨va,vc,rfl⟩:=hO.slice;have hdl:(s.drop i).length=s.length-i:=List.length_drop;push_cast -dsimp[hz5];refine⟨fun hlt=>?_,fun hge=>?_⟩
 ·obtain⟨c,r,hcr⟩:∃c r,s.drop i=c::r:=by
   cases hd:s.drop i with
   | nil=>rw[hd]at hdl;simp at hdl;omega
   | cons c r=>exact⟨c,r,rfl⟩
  have hget:s.getD i 0=c:=by
   have:(s.drop i).getD 0 0=c:=by rw[hcr];rfl
   rw[←this];simp[List.getD_eq_getElem?_getD]
  rw[hcr]at hm2 hm hdl;have hrl:r.length+1=s.length-i:=by simpa using hdl
  have hstep:=hm2;rw[tokLoop]at hstep;have hc32:(((c.toNat:Nat):Int)=32)↔c=32:=⟨fun h=>UInt8.toNat_inj.1 (by show c.toNat=32;omega),fun h=>by subst h;rfl⟩
  have hc10:(((c.toNat:Nat):Int)=10)↔c=10:=⟨fun h=>UInt8.toNat_inj.1 (by show c.toNat=10;omega),fun h=>by subst h;rfl⟩
  have hc35:(((c.toNat:Nat):Int)=35)↔c=35:=⟨fun h=>UInt8.toNat_inj.1 (by show c.toNat=35;omega),fun h=>by subst h;rfl⟩
  have hdr:∀k,s.drop (i+k)=(c::r).drop k:=fun k=>by rw[←hcr,List.drop_drop]
  by_cases h32:((c.toNat:Nat):Int)=32
  ·rw[if_pos (.inl (hc32.1 h32))]at hstep;push_cast -dsimp[hz5,hget,h32];refine⟨⟨by omega,by omega⟩,⟨by omega,by omega⟩,⟨m',i+1,acc,_,rfl,hz4,by omega,by rw[hdr 1];simp;omega,hacc,by rw[hdr 1];exact hstep,hO,hb⟩,by simp only[intOf];omega⟩
  ·by_cases h10:((c.toNat:Nat):Int)=10
   ·rw[if_pos (.inr (hc10.1 h10))]at hstep;push_cast -dsimp[hz5,hget,h32,h10];refine⟨⟨by omega,by omega⟩,⟨by omega,by omega⟩,⟨m',i+1,acc,_,rfl,hz4,by omega,by rw[hdr 1];simp;omega,hacc,by rw[hdr 1];exact hstep,hO,hb⟩,by simp only[intOf];omega⟩
   ·rw[if_neg (fun h=>h.elim (fun h=>h32 (hc32.2 h)) (fun h=>h10 (hc10.2 h)))]at hstep;by_cases h35:((c.toNat:Nat):Int)=35
    ·rw[if_pos (hc35.1 h35)]at hstep;have hr:=run_c _ (· != 10) noline_c (c::r) (by rw[List.length_cons];omega) w';rw[←hcr]at hr;have hle:=runP_le (· != 10) (c::r);have hpos:0<runP (· != 10) (c::r):=runP_pos (by rw[hc35.1 h35];decide);rw[List.length_cons]at hle;push_cast -dsimp[hz5,hget,h32,h10,h35];refine⟨⟨by omega,by omega⟩,⟨by omega,by omega⟩,?_⟩;refine callK_of hr ?_;rintro _ wq ⟨rfl,hwq⟩;obtain rfl:w'=wq:=hwq.symm;rw[hcr];push_cast -dsimp[hz5];refine⟨⟨by omega,by omega⟩,⟨m',i+runP (· != 10) (c::r),acc,_,by first|(push_cast;done)|(push_cast;rfl),hz4,by omega,by rw[hdr];simp;omega,hacc,by rw[hdr];exact hstep,hO,hb⟩,by simp only[intOf];omega⟩
    ·rw[if_neg (fun h=>h35 (hc35.2 h))]at hstep;have hr:=next_c c r (by rw[List.length_cons];omega) w';rw[←hcr]at hr;have hle:=nextT_le c r;rw[List.length_cons]at hle;push_cast -dsimp[hz5,hget,h32,h10,h35];refine⟨⟨by omega,by omega⟩,⟨by omega,by omega⟩,?_⟩;refine callK_of hr ?_;rintro _ wq ⟨rfl,hwq⟩;obtain rfl:w'=wq:=hwq.symm;rw[hcr];have hkn:∃k n,nextT (c::r)=(k,n):=⟨_,_,rfl⟩;obtain⟨k,n,hkn⟩:=hkn;rw[hkn]at hle hstep ⊢
     dsimp only at hle hstep ⊢
     push_cast -dsimp[hz5];refine⟨fun h0=>?_,fun h0=>?_⟩;·
      refine boxK_of ?_
      intro w4 hw4
      have B4:Blk w4 w'.heap.size 97 [.int .i64 (3:Nat),.int .i64 i]:=hw4.blk
      have b4:=hb.trans (hw4.below.mono hzb)
      push_cast -dsimp
      exact⟨.inr ⟨3,i,_,by rw[←hstep,if_pos (show n=0 by omega)],rfl,hzb,B4⟩,b4⟩
     ·rw[if_neg (by omega)]at hstep;push_cast -dsimp[hz4];refine⟨fun h500=>?_,fun h500=>?_⟩;·
       refine boxK_of ?_
       intro w4 hw4
       have B4:Blk w4 w'.heap.size 97 [.int .i64 (4:Nat),.int .i64 i]:=hw4.blk
       have b4:=hb.trans (hw4.below.mono hzb)
       push_cast -dsimp
       exact⟨.inr ⟨4,i,_,by rw[←hstep,if_pos (show acc.length=500 by omega)],rfl,hzb,B4⟩,b4⟩
      ·rw[if_neg (by omega)]at hstep;refine⟨⟨by omega,by omega⟩,⟨by omega,by omega,by omega⟩,?_⟩;have htxt:(s.take (i+n)).drop i=(c::r).take n:=by rw[List.drop_take,hcr];congr 1;omega
       have hpc:partCells [(0,Value.agg #[.int .i64 k,str ((s.take ((i:Int)+n).toNat).drop i),.int .i64 i])]=[(⟨k,(c::r).take n,i⟩:Cae.Tok)].flatMap encTok:=by
        rw[show ((i:Int)+n).toNat=i+n by omega,htxt]
        rfl
       refine rowK elI_83 rfl rfl (by omega) ?_;rw[hpc];intro w4 hw4;have hO4:=hO.new hw4;have z4':=hw4.size;have b4:=hb.trans (hw4.below.mono hzb);push_cast -dsimp;refine appendK2 (base:=w.heap.size) [⟨k,(c::r).take n,i⟩] (enc:=encTok) elI_83 hO4 (by rfl) (fun j y hy=>by rw[Nat.zero_add];exact hw4.cell hy) encTok_one (by simp only[List.length_cons,List.length_nil];omega) (by omega) ?_;intro v5 w5 hO5 hg5 hn5;have b5:=b4.trans ((Kept.grown hg5 (X:=fun j=>(Value.slice va acc.length vc).ownBlock=some j) (fun _ h=>h)).below (B:=w.heap.size) (by omega) (fun i h=>(hO4.block i h).1));push_cast -dsimp[hz5];refine⟨⟨by omega,by omega⟩,⟨m',i+n,acc++[⟨k,(c::r).take n,i⟩],v5,by first|(push_cast;done)|(push_cast;rfl),rfl,by omega,by rw[hdr];simp;omega,by rw[List.length_append,List.length_singleton];omega,by rw[hdr];exact hstep,hO5,b5⟩,by simp only[intOf];omega⟩
 ·have hpc:partCells [(0,Value.agg #[.int .i64 5,str [],.int .i64 s.length])]=[(⟨5,[],s.length⟩:Cae.Tok)].flatMap encTok:=rfl;refine rowK elI_83 rfl rfl (by omega) ?_;rw[hpc];intro w4 hw4;have hO4:=hO.new hw4;have z4':=hw4.size;have b4:=hb.trans (hw4.below.mono hzb);have hend:s.drop i=[]:=List.drop_eq_nil_iff.2 (by omega);have hok:tokP s=.ok (acc++[⟨5,[],s.length⟩]):=by
   rw[←hm2,hend,tokLoop,show i=s.length by omega]
  push_cast -dsimp[hz4];refine appendK2 (base:=w.heap.size) [⟨5,[],s.length⟩] (enc:=encTok) elI_83 hO4 (by rfl) (fun j y hy=>by rw[Nat.zero_add];exact hw4.cell hy) encTok_one (by simp only[List.length_cons,List.length_nil];omega) (by omega) ?_;intro v5 w5 hO5 hg5 hn5;have b5:=b4.trans ((Kept.grown hg5 (X:=fun j=>(Value.slice va acc.length vc).ownBlock=some j) (fun _ h=>h)).below (B:=w.heap.size) (by omega) (fun i h=>(hO4.block i h).1));push_cast -dsimp;exact⟨.inl ⟨_,v5,hok,rfl,hO5⟩,b5⟩
end Go.Proofs.YtodeeahdhnjpkaaGreatDoor
end
section
namespace Go.Vc
open Go.RowKit
section
variable {P:Program} {ds:List Deferred}
theorem resA_of_resKD {t:Fr}{dst:Option Tmp}{C:World→Prop}{K:VK}{N:Act→World→Prop}(hn:∀v w',K v w'→N ⟨(put t dst v).toArray,ds⟩ w'){r:Result Next}(h:resK P t (fun v w'=>C w'∧K v w') noQ r):resA P ⟨t.toArray,ds⟩ dst C N r:=by
 cases r with
 | halt x w'=>cases x<;>simp only[resK,noQ]at h
 | ok n w' =>
  cases n<;>simp only[resK]at h<;>simp only[resA]
  case value v=>exact⟨h.1,by rw[put_eqD];exact hn _ _ h.2⟩
  case skip=>exact⟨h.1,by rw[put_eqD];exact hn _ _ h.2⟩
  case enter f args =>
   refine h.mono fun e w'' he=>?_;cases e with
   | returned v=>exact⟨v,rfl,he.1,by rw[put_eqD];exact hn _ _ he.2⟩
   | panicked c=>exact he.elim
   | outgrown=>exact he.elim
theorem mixOp_of_mixKD {ops:List Oper}{i:Nat}{o:Oper}{C:World→Prop}{t:Fr}{w:World}{K:VK}{N:Act→World→Prop}(hi:ops[i]?=some o)(hw:Region.wanted o (yielded ops.toArray t.toArray)=true)
  (hn:∀v w',K v w'→N ⟨(put t o.dst v).toArray,ds⟩ w') (h:mixK P o t w C K .mk):mixOp P ops.toArray C i N ⟨t.toArray,ds⟩ w:=by
 unfold mixOp;simp only[List.getElem?_toArray,hi,hw,if_true,ev_eq];unfold mixK at h;split at h
 ·rename_i ty x ho;have hc:chain P o=false:=by simp[chain,ho]
  simp only[hc,Bool.false_eq_true,if_false];obtain⟨v,hr,hall,hk⟩:=loadK_run ho h;refine⟨v,fun w' hw'=>?_,by rw[put_eqD];exact hn _ _ hk⟩;obtain⟨u,hu,hv⟩:=loadK_run ho (hall w' hw');rw[hu,hv]
 ·rename_i x ho;have hc:chain P o=false:=by simp[chain,ho]
  simp only[hc,Bool.false_eq_true,if_false];unfold nilK at h;split at h
  ·rename_i a hx;refine⟨_,fun w' _=>?_,by rw[put_eqD];exact hn _ _ h⟩;unfold execOp;simp only[ho,hx];rfl
  ·exact h.elim
 ·split at h
  ·rename_i hc;simp only[hc,if_true];exact resA_of_resKD hn (opK_ok h)
  ·rename_i hc;simp only[hc];rcases pureK_ok h with h|⟨v,hg,hk⟩
   ·exact h.elim
   ·exact⟨v,fun w' _=>hg w',by rw[put_eqD];exact hn _ _ hk⟩
theorem mixOp_skipD {ops:List Oper}{i:Nat}{o:Oper}{C:World→Prop}{t:Fr}{w:World}{N:Act→World→Prop}(hi:ops[i]?=some o)(hw:Region.wanted o (yielded ops.toArray t.toArray)=false)
  (h:N ⟨(put t o.dst undef).toArray,ds⟩ w):mixOp P ops.toArray C i N ⟨t.toArray,ds⟩ w:=by
 unfold mixOp;simp only[List.getElem?_toArray,hi,hw,Bool.false_eq_true,if_false];rw[put_eqD];exact h
theorem wpLex_of_vcMixD {ops:List Oper}{C:World→Prop}{R:Fr→World→Prop}{N:Act→World→Prop}(hn:∀t w,R t w→N ⟨t.toArray,ds⟩ w):∀(l:List Oper) (k:Nat) (t:Fr) (w:World),(∀j,l[j]?=ops[k+j]?) →
  vcMix P ops C R l t w .mk→wpLex P ops.toArray C N (List.range' k l.length) ⟨t.toArray,ds⟩ w
 | [],_,_,_,_,h=>hn _ _ h
 | o::r,k,t,w,hl,h=>by
  have h0:ops[k]?=some o:=by simpa using(hl 0).symm
  have ih:=fun t w=>wpLex_of_vcMixD (C:=C) hn r (k+1) t w (fun j=>by have:=hl (j+1);simpa[Nat.add_assoc,Nat.add_comm 1 j] using this);simp only[List.length_cons,List.range'_succ,wpLex];simp only[vcMix]at h;split at h
  ·rename_i hg;exact mixOp_of_mixKD h0 (by simp[Region.wanted,hg]) (fun v w' hk=>ih _ _ hk) h
  ·rename_i j want hg;rcases guard_cases hg h with ⟨hw,hh⟩|⟨hw,hh⟩
   ·exact mixOp_of_mixKD h0 hw (fun v w' hk=>ih _ _ hk) hh
   ·exact mixOp_skipD h0 hw (ih _ _ hh)
theorem wpD_draw {id:Nat}{l:List Oper}{t:Fr}{w:World}{Q:Exit→Act→World→Prop}(C:World→Prop)(hm:P.follows .mixedOrders=true)(hB:mixB P l.toArray=true)(hC:C w.drew)
  (h:vcMix P l C (fun t w=>Q .normal ⟨t.toArray,ds⟩ w) l t w.drew .mk):(Code.region id l.toArray true).wp P Q ⟨t.toArray,ds⟩ w:=by
 simp only[mixB,Bool.and_eq_true]at hB;refine wp_region_any hm (wpAny_of_mix (C:=C) (R:=fun a w=>Q .normal a w) (fun _ _ h=>h) _ _ _ _ hC ?_);refine wpMix_lex hB.1 _ 0 _ _ _ (by simp) hC (fun j o _ hl=>by simp[Array.getElem?_replicate]at hl;split at hl<;>simp at hl) hB.2 ?_
 have:=wpLex_of_vcMixD (P:=P) (ds:=ds) (ops:=l) (C:=C) (R:=fun t w=>Q .normal ⟨t.toArray,ds⟩ w) (N:=fun a w=>Q .normal a w) (fun t w hk=>hk) l 0 t w.drew (fun j=>by simp) h;simpa using this
theorem plainD {c:Code}(hp:plainB c=true){Q:Exit→Act→World→Prop}{t:Fr}{w:World}(h:vc P c (fun e t w=>Q e ⟨t.toArray,ds⟩ w) t w .mk):c.wp P Q ⟨t.toArray,ds⟩ w :=
 wpIn_wide.1 (plainIn (n:=0) (ro:=none) hp h)
theorem seqD {a b:Code}(hp:plainB a=true){Q:Exit→Act→World→Prop}{t:Fr}{w:World}(h:vc P a (seqQ (fun t w=>b.wp P Q ⟨t.toArray,ds⟩ w) (fun e t w=>Q e ⟨t.toArray,ds⟩ w) .mk) t w .mk):(Code.seq a b).wp P Q ⟨t.toArray,ds⟩ w:=by
 have e:(fun(t:Fr) (w:World)=>b.wpIn (fen none) 0 P Q ⟨t.toArray,ds⟩ w)=fun t w=>b.wp P Q ⟨t.toArray,ds⟩ w:=by
  funext t w;exact propext wpIn_wide
 have h':(fun N:Fr→World→Prop=>vc P a (seqQ N (fun e t w=>Q e ⟨t.toArray,ds⟩ w) .mk) t w .mk) (fun t w=>b.wpIn (fen none) 0 P Q ⟨t.toArray,ds⟩ w):=by
  rw[e];exact h
 exact wpIn_wide.1 (seqIn (n:=0) (ro:=none) hp h')
theorem condFD {c:Operand}{x y:Code}{Q:Exit→Act→World→Prop}{t:Fr}{w:World}(hc:ev t c=.bool false)(h:y.wp P Q ⟨t.toArray,ds⟩ w):(Code.cond c x y).wp P Q ⟨t.toArray,ds⟩ w :=
 wpIn_wide.1 (condF (n:=0) (F:=Fence.wide) hc (wpIn_wide.2 h))
theorem condTD {c:Operand}{x y:Code}{Q:Exit→Act→World→Prop}{t:Fr}{w:World}(hc:ev t c=.bool true)(h:x.wp P Q ⟨t.toArray,ds⟩ w):(Code.cond c x y).wp P Q ⟨t.toArray,ds⟩ w :=
 wpIn_wide.1 (condT (n:=0) (F:=Fence.wide) hc (wpIn_wide.2 h))
theorem wpS_plain {c:Code}{Q:Exit→Act→List Frame→World→Prop}{t:Fr}{cs:List Frame}{w:World}(h:vc P c (fun e t w=>Q e ⟨t.toArray,[]⟩ cs w) t w .mk):c.wpS P Q ⟨t.toArray,[]⟩ cs w:=by
 refine wpS_of_wp ?_;have h1:=vc_ok c _ _ w h;unfold wpL at h1;refine Code.wp_mono ?_ h1;rintro e a w' ⟨hd,hh⟩;rw[act_eq hd];exact hh
theorem assert_same {ty xT:TypeId}{v:Value}{fs:Array Field}{t:Fr}{w:World}{K:VK}{Q:EP}{p}(hu:P.underlying ty=some (.struct fs))(k:K (.tuple #[v,.bool true]) w):valK P (Instr.typeAssert (.iface ty v) xT ty true) t w K Q p :=
 valK_of (by simp[Instr.typeAssert,run_underlying hu]) k
theorem noRes {fn:Func}(h:fn.results=#[])(t:Fr)(w:World):(results fn t.toArray).run P w=.ok (.tuple #[]) w:=by
 obtain⟨vs,h1,h2⟩:=resultsC_run (P:=P) (w:=w) fn [] h t (fun vs=>vs=[]) rfl;rw[h1,h2];rfl
theorem deferReg {id:Nat}{g:FuncId}{d:Tmp}{cap:List Operand}{ty1 ty2:TypeId}{p1 p2:String}{a1 a2:Array Edge}{Q:Exit→Act→World→Prop}{t:Fr}{w:World}
  (hd:d<t.length) (h:Q .normal ⟨(t.set d (.func (.func g) #[] (cap.map (ev t)).toArray)).toArray,{ target:=.fn (.func g) (cap.map (ev t)).toArray,args:=#[] }::ds⟩ w) :
  (Code.region id #[⟨some d,.makeFunc (.func g) #[] cap.toArray,ty1,p1,a1,none⟩,⟨none,.defer { callee:=.value (.tmp d),args:=#[],argTypes:=#[] },ty2,p2,a2,none⟩] false).wp P Q ⟨t.toArray,ds⟩ w:=by
 refine wp_region_list ?_;unfold wpList;rw[if_pos (by rfl)];refine .inl ?_;unfold Oper.wp;have h1:∀(ρ:Operand→Value) (cap:Array Operand) (o:Oper),o.op=.makeFunc (.func g) #[] cap→(execOp ρ o).run P w=.ok (.value (.func (.func g) #[] (cap.map ρ))) w:=fun ρ cap o ho=>by
  unfold execOp;simp only[ho];simp[go_sem,Instr.makeFunc]
 rw[h1 _ cap.toArray _ rfl];unfold Oper.upon;dsimp only;rw[put_eqD];unfold wpList;rw[if_pos (by rfl)];refine .inl ?_;unfold Oper.wp;rw[ev_eq,ev_eq];have hg:(put t (some d) (.func (.func g) #[] (cap.toArray.map (ev t)))).getD d undef=.func (.func g) #[] (cap.toArray.map (ev t)):=by
  simp[put,hd]
 have h2:∀(o:Oper),o.op=.defer { callee:=.value (.tmp d),args:=#[],argTypes:=#[] }→(execOp (ev (put t (some d) (.func (.func g) #[] (cap.toArray.map (ev t))))) o).run P w=.ok (.defer { target:=.fn (.func g) (cap.toArray.map (ev t)),args:=#[] }) w:=fun o ho=>by
  unfold execOp;simp only[ho];simp only[resolve,ev,hg,Deferred.ofValue];simp[go_sem]
 rw[h2 _ rfl];unfold Oper.upon;dsimp only;unfold wpList;have e:∀(a:Act) ,a.put none undef=a:=fun a=>rfl;rw[e];simpa[put] using h
end
end Go.Vc
end
section
namespace Go.Proofs.YtodeeahdhnjpkaaGreatDoor
open Go.Vc Go.Proofs Go.RowKit Cae
attribute [local irreducible] wpL callK valK unitK runK Fun Sl Vc.Own vc vcOps opK pureK
theorem catch_c (rb eb:Nat)(ev:Value)(f0:List Value)(e0:Value)(hf:f0.length=3)(w:World)(hr:Blk w rb 25 f0)(he:Blk w eb 32 [e0])(hne:rb≠eb)(hev:oneCell ev=true) :
  CallsD Tryz.prog 30 #[.pointer (some ⟨rb,0,none⟩),.pointer (some ⟨eb,0,none⟩)] (.panicking [{ v:=.iface 81 (.agg #[ev]),recovered:=false }]) w fun e u' w' =>
   e=.returned (.tuple #[])∧u'=.panicking [{ v:=.iface 81 (.agg #[ev]),recovered:=true }]∧Blk w' rb 25 [.slice none 0 0,.slice none 0 0,.bool false]∧Blk w' eb 32 [ev]∧Kept (fun i=>i=rb∨i=eb) w w':=by
 refine callsD_of_wpS Tryz.func30 rfl fun c₀ cs hu=>?_;apply wpS_seq;apply wpS_region;simp[wpOpsS,go_sem,recoverD,hu,Tryz.ntmps30,Exit.thenS];refine wpS_plain (t:=[.pointer (some ⟨rb,0,none⟩),.pointer (some ⟨eb,0,none⟩),.iface 81 (.agg #[ev]),undef,undef,.iface 81 (.agg #[ev]),undef,undef,undef,undef,undef,undef,undef,undef,undef,undef,undef,undef,undef]) ?_;push_cast -dsimp;refine assert_same Tryz.underlying81 ?_;push_cast -dsimp;refine allocK (z:=[.nilIface]) (by kernel_rfl) ?_;intro w1 hw1;have C1:=hw1.blk;have R1:=hr.below hw1.below hr.lt;have E1:=he.below hw1.below he.lt;have z1:=hw1.size;push_cast -dsimp;refine storeAgg (xt:=81) (n:=1) (by kernel_rfl) C1 rfl (by decide) (by simp;cases ev<;>first|rfl|(simp[oneCell]at hev)) ?_
 intro w2 hw2;have C2:Blk w2 w.heap.size 81 [ev]:=hw2.blk;have hrl:=hr.lt;have hel:=he.lt;have R2:=R1.kept hw2.kept (by omega);have E2:=E1.kept hw2.kept (by omega);push_cast -dsimp;refine wpL_draw (fun w'=>Blk w' w.heap.size 81 [ev]) mixed (by kernel_rfl) C2.drew ?_;have d2:w2.drew.cell? ⟨w.heap.size,0,none⟩=some ev:=C2.drew.cell rfl;push_cast -dsimp[d2];refine⟨fun w'' h=>by rw[Blk.cell h (o:=0) rfl];exact rfl,?_⟩;refine storeAgg (xt:=25) (n:=3) (by kernel_rfl) R2.drew rfl (by rw[hf];exact Nat.le_refl _) (by simp;exact⟨rfl,rfl⟩) ?_;intro w3 hw3;have R3:Blk w3 rb 25 [.slice none 0 0,.slice none 0 0,.bool false]:=by
  have:=hw3.blk;rw[List.take_zero,List.nil_append,Nat.zero_add,List.drop_of_length_le (by rw[hf];exact Nat.le_refl _),List.append_nil]at this;exact this
 have C3:Blk w3 w.heap.size 81 [ev]:=C2.drew.kept hw3.kept (by omega);have E3:=E2.drew.kept hw3.kept (by omega);refine⟨C3,?_⟩;push_cast -dsimp;refine storeK_of E3 (by simp) hev ?_;intro w4 hw4;have E4:Blk w4 eb 32 [ev]:=hw4.blk;have R4:=R3.kept hw4.kept (by omega);have C4:Blk w4 w.heap.size 81 [ev]:=C3.kept hw4.kept (by omega);have k4:Kept (fun i=>i=rb∨i=eb) w w4:=(((Kept.new (X:=fun i=>i=rb∨i=eb) hw1).trans hw2.kept (fun i h1 h2=>by omega)).drew.trans hw3.kept (fun i _ h=>.inl h)).trans hw4.kept (fun i _ h=>.inr h);refine⟨C4,?_⟩;push_cast -dsimp;exact⟨rfl,_,rfl,.tuple #[],noRes (by rfl) _ _,rfl,rfl,R4,E4,k4⟩
theorem idle_c (rb eb:Nat)(w:World) :
  CallsD Tryz.prog 30 #[.pointer (some ⟨rb,0,none⟩),.pointer (some ⟨eb,0,none⟩)] .returning w fun e u' w'=>e=.returned (.tuple #[])∧u'=.returning∧w'=w:=by
 refine callsD_of_wpS Tryz.func30 rfl fun c₀ cs hu=>?_;apply wpS_seq;apply wpS_region;simp[wpOpsS,go_sem,recoverD,hu,Tryz.ntmps30,Exit.thenS];refine wpS_plain (t:=[.pointer (some ⟨rb,0,none⟩),.pointer (some ⟨eb,0,none⟩),.nilIface,undef,undef,.nilIface,undef,undef,undef,undef,undef,undef,undef,undef,undef,undef,undef,undef,undef]) ?_;push_cast -dsimp;refine⟨rfl,.returning,?_,.tuple #[],noRes (by rfl) _ _,rfl,rfl,rfl⟩;rw[←hu]
def ParsR (w:World)(s:List UInt8)(r:Value)(w':World):Prop :=
 (∃f v,parseR s=.ok f∧r=.tuple #[v,.nilIface]∧FileV (·<w.heap.size) w' v f) ∨
 (∃e pos b,parseR s=.error (e,pos)∧r=.tuple #[.agg #[.slice none 0 0,.slice none 0 0,.bool false],.iface 96 (.pointer (some ⟨b,0,none⟩))]∧w.heap.size≤b∧Blk w' b 97 [.int .i64 e,.int .i64 pos])
def ParE (w:World)(s:List UInt8)(e:Ending)(w':World):Prop:=∃v,e=.returned v∧ParsR w s v w'∧Below w.heap.size w w'
theorem tl_of {s:List UInt8}{l:List Cae.Tok}(hs:s.length≤1000000)(h:tokP s=.ok l):TL l:=by
 obtain⟨m,hm,e,hn⟩:=tokLoop_tk _ _ _ _ _ (by simp) h;rw[List.nil_append]at e;subst e;refine⟨⟨m,_,rfl,rfl⟩,fun t ht=>?_,by rw[List.length_append,List.length_singleton];simp at hn;omega,fun t ht hk=>?_⟩
 ·rcases List.mem_append.1 ht with ht|ht
  ·have:=(hm.inside t ht).length_le;omega
  ·rw[List.mem_singleton.1 ht];simp
 ·rcases List.mem_append.1 ht with ht|ht
  ·exact tk_num hm t ht hk
  ·rw[List.mem_singleton.1 ht]at hk;cases hk
theorem leave_ok {w W:World}{s:List UInt8}{fv:List Value}{t:Fr}(h2:t.getD 2 undef=.pointer (some ⟨w.heap.size,0,none⟩))(h3:t.getD 3 undef=.pointer (some ⟨w.heap.size+1,0,none⟩)){x:Value}
  (B1:Blk W w.heap.size 25 fv) (B2:Blk W (w.heap.size+1) 32 [x]) (hl:fv.length=3) (hR:ParsR w s (.tuple #[.agg fv.toArray,x]) W) (hb:Below w.heap.size w W) :
  bodyPostD Tryz.prog Tryz.f6 (ParE w s) .ret ⟨t.toArray,[{ target:=.fn (.func 30) #[.pointer (some ⟨w.heap.size,0,none⟩),.pointer (some ⟨w.heap.size+1,0,none⟩)],args:=#[] }]⟩ W:=by
 show Leaves _ _ _ _ _ _ _
 refine leaves_cons (f:=30) (args:=#[.pointer (some ⟨w.heap.size,0,none⟩),.pointer (some ⟨w.heap.size+1,0,none⟩)]) (by simp) ?_ ?_
 ·simp only[invoke,Array.empty_append];exact callFunc_enter Tryz.func30 (by kernel_rfl) (by kernel_rfl)
 refine(idle_c w.heap.size (w.heap.size+1) W).mono ?_;rintro e u' w' ⟨rfl,rfl,rfl⟩;obtain⟨vs,hv,hk⟩:=resultsC_run (P:=Tryz.prog) (w:=w') Tryz.f6 [.cell 2 25,.cell 3 32] (by rfl) t (fun vs=>vs=[.agg fv.toArray,x]) (by
  have d1:cellsAt w' ⟨w.heap.size,0,none⟩ 0 3=some fv:=by rw[←hl];exact B1.cellsAt
  have d2:w'.cell? ⟨w.heap.size+1,0,none⟩=some x:=B2.cell rfl;push_cast -dsimp[h2,h3,d1,d2])
 refine⟨_,hv,_,rfl,?_,hb⟩;rw[hk];exact hR
theorem leave_panic {w W:World}{s:List UInt8}{e pos:Nat}{fv:List Value}{ce:List PanicEntry}{t:Fr}(h2:t.getD 2 undef=.pointer (some ⟨w.heap.size,0,none⟩))(h3:t.getD 3 undef=.pointer (some ⟨w.heap.size+1,0,none⟩)){x:Value}
  (B1:Blk W w.heap.size 25 fv) (B2:Blk W (w.heap.size+1) 32 [x]) (hl:fv.length=3) (hT:Thr (w.heap.size+2) W ce e pos) (hp:parseR s=.error (e,pos)) (hb:Below w.heap.size w W) :
  bodyPostD Tryz.prog Tryz.f6 (ParE w s) (.panic ce) ⟨t.toArray,[{ target:=.fn (.func 30) #[.pointer (some ⟨w.heap.size,0,none⟩),.pointer (some ⟨w.heap.size+1,0,none⟩)],args:=#[] }]⟩ W:=by
 obtain⟨b,hbs,rfl,hB⟩:=hT
 show Leaves _ _ _ _ _ _ _
 refine leaves_cons (f:=30) (args:=#[.pointer (some ⟨w.heap.size,0,none⟩),.pointer (some ⟨w.heap.size+1,0,none⟩)]) (by simp) ?_ ?_
 ·simp only[invoke,Array.empty_append];exact callFunc_enter Tryz.func30 (by kernel_rfl) (by kernel_rfl)
 refine(catch_c w.heap.size (w.heap.size+1) _ fv x hl W B1 B2 (by omega) rfl).mono ?_;rintro e' u' w' ⟨rfl,rfl,R1,R2,hk⟩;have hB':=hB.kept hk (by omega);have hb':=hb.trans (hk.below (B:=w.heap.size) hb.size (fun i h=>by omega));obtain⟨vs,hv,hk⟩:=resultsC_run (P:=Tryz.prog) (w:=w') Tryz.f6 [.cell 2 25,.cell 3 32] (by rfl) t (fun vs=>vs=[.agg #[.slice none 0 0,.slice none 0 0,.bool false],.iface 96 (.pointer (some ⟨b,0,none⟩))]) (by
  have d1:cellsAt w' ⟨w.heap.size,0,none⟩ 0 3=some [.slice none 0 0,.slice none 0 0,.bool false]:=R1.cellsAt;have d2:w'.cell? ⟨w.heap.size+1,0,none⟩=some (.iface 96 (.pointer (some ⟨b,0,none⟩))):=R2.cell rfl;push_cast -dsimp[h2,h3,d1,d2])
 show Leaves _ _ _ _ [] (settle _) _
 refine⟨_,hv,_,rfl,?_,hb'⟩;rw[hk];exact .inr ⟨e,pos,b,hp,rfl,by omega,hB'⟩
theorem Sl.off {X:Nat→Prop}{w:World}{v:Value}{l:List Cae.Tok}{rb:Nat}{e:TypeId}{cs:List Value}(h:Sl X 3 (En encTok) w v l)(hB:Blk w rb e cs)(hcs:∀(o:Nat) (u:Value),cs[o]?=some u→∀n,u≠.int .i64 n):Sl (fun b=>X b∨b=rb) 3 (En encTok) w v l:=by
 unfold Sl at h ⊢
 obtain⟨a,c,rfl,hc,h⟩:=h;refine⟨a,c,rfl,hc,fun i x hx=>?_⟩;obtain⟨b,o,ks,ha,hb,hk,hcell,hr⟩:=h i x hx;refine⟨b,o,ks,ha,fun hh=>?_,hk,hcell,hr⟩;rcases hh with hh|rfl
 ·exact hb hh
 ·have hr':ks=encTok x:=hr;have h0:=hcell 0 (.int .i64 x.kind) (by rw[hr'];rfl);have h1:cs[o+i*3+0]?=some (.int .i64 x.kind):=by
   have hB':w.heap[b]?=_:=hB;simp only[World.cell?,hB']at h0;simpa using h0
  exact hcs _ _ h1 _ rfl
theorem PS.off {pb B rb:Nat}{w w':World}{l:List Cae.Tok}{e:TypeId}{cs:List Value}(h:PS pb B w l)(hB:Blk w rb e cs)(hcs:∀(o:Nat) (u:Value),cs[o]?=some u→∀n,u≠.int .i64 n)(hne:rb≠pb)(hg:14≤rb)(hk:Kept (·=rb) w w'):PS pb B w' l:=by
 obtain⟨v,h1,h2⟩:=h.st;exact⟨⟨v,h1.kept hk (fun hh=>hne hh.symm),((Sl.off h2 hB hcs).kept hk (fun i hi=>.inr hi)).weaken (fun i hi=>.inl hi)⟩,h.lt,Nat.le_trans h.le hk.size,h.tl,h.db.kept hk (fun i hi hh=>by omega),h.er.kept hk (fun i hi hh=>by omega),h.gl⟩
theorem ruleParse_c (s:List UInt8)(hs:s.length≤1000000)(w:World)(hd:Db w)(he:SErrs w)(hg:14≤w.heap.size):Fun Tryz.prog 6 [str s] w fun r w'=>ParsR w s r w'∧Below w.heap.size w w':=by
 unfold Fun;refine⟨callFunc_enter Tryz.func6 (by kernel_rfl) (by kernel_rfl),?_⟩;refine calls_of_wp_defers Tryz.func6 rfl ?_;have e:(([str s]:List Value).toArray++Array.replicate (Tryz.f6.ntmps-([str s]:List Value).toArray.size) undef)=(fr0 [str s] Tryz.f6.ntmps).toArray:=by simp[fr0]
 rw[e];simp -dsimp (maxSteps:=4000000) only[push_cast,fr0,Tryz.ntmps6,List.length_cons,List.length_nil,Nat.reduceAdd,Nat.reduceSub,Nat.reduceBEq,List.replicate_succ,List.replicate_zero];have hR:∃R:Ending→World→Prop,R=ParE w s:=⟨_,rfl⟩
 show Code.wp _ _ (bodyPostD Tryz.prog Tryz.f6 (ParE w s)) _ _
 refine seqD (by rfl) ?_;push_cast -dsimp;refine allocK (z:=[.slice none 0 0,.slice none 0 0,.bool false]) (by kernel_rfl) ?_;intro w1 hw1;have R1:=hw1.blk;have z1:=hw1.size;have b1:=hw1.below;push_cast -dsimp;refine allocK (z:=[.nilIface]) (by kernel_rfl) ?_;intro w2 hw2;have E2:=hw2.blk;have R2:=R1.below hw2.below (by omega);have z2:=hw2.size;have b2:=b1.trans (hw2.below.mono (by omega));rw[z1]at E2;push_cast -dsimp[z1];refine wp_seq (deferReg (cap:=[.tmp 2,.tmp 3]) (by simp) ?_);simp -dsimp only[push_cast];refine seqD (by rfl) ?_;push_cast -dsimp;refine callK_of (tokens_c s hs w2) ?_;rintro r w3 ⟨hT,b3⟩;have R3:=R2.below b3 (by omega);have E3:=E2.below b3 (by omega);have z3:=b3.size;have hb3:=b2.trans (b3.mono (by omega));rcases hT with ⟨l,v,htok,rfl,hO⟩|⟨en,pos,b,htok,rfl,hbs,hB⟩
 ·obtain⟨va,vc,rfl⟩:=hO.slice;push_cast -dsimp;refine storeK_of E3 (by simp) rfl ?_;intro w4 hw4;have E4:Blk w4 (w.heap.size+1) 32 [.nilIface]:=hw4.blk;have R4:=R3.kept hw4.kept (by omega);have z4:=hw4.size;have hO4:=hO.keptX hw4.kept (fun g hg h=>by have:=(hO.block g hg).1;omega);have hb4:=hb3.trans (hw4.kept.below (B:=w.heap.size) (by omega) (fun i h=>by omega));have d4:w4.cell? ⟨w.heap.size+1,0,none⟩=some .nilIface:=E4.cell rfl;push_cast -dsimp;refine wp_seq (seqD (by rfl) ?_);push_cast -dsimp[d4];refine condFD (by rfl) (wp_skip ?_)
  show Code.wp _ _ _ _ _
  refine plainD (by rfl) ?_;push_cast -dsimp;refine boxK_of ?_;intro w5 hw5;have z5:=hw5.size;have hpb:∃pb,pb=w4.heap.size:=⟨_,rfl⟩;obtain⟨pb,hpb⟩:=hpb;have PB:=hw5.blk;have E5:=E4.below hw5.below E4.lt;have R5:=R4.below hw5.below R4.lt;have hb5:=hb4.trans (hw5.below.mono hb4.size);rw[←hpb]at PB;have htl:=tl_of hs htok;have P5:PS pb (pb+1) w5 l:=⟨⟨_,PB,((Sl.top (by decide) hO4.sl).below hw5.below).weaken (fun i h=>by omega)⟩,by omega,by omega,htl,hd.below hb5 hd.lt,he.below hb5,by omega⟩;push_cast -dsimp[←hpb];refine callP_of (file_c P5) ?_ ?_
  ·rintro _ w6 ⟨f,l',ef,⟨cv,rv,cs,rs,rfl,S1,S2,A1,A2⟩,P6,k6⟩;have E6:=E5.kept k6 (by omega);have R6:=R5.kept k6 (by omega);have z6:=k6.size;have hb6:=hb5.trans (k6.below (B:=w.heap.size) hb5.size (fun i h=>by omega));push_cast -dsimp[←hpb];refine storeAgg (xt:=25) (n:=3) (by kernel_rfl) R6 rfl (by decide) ?_ ?_
   ·obtain⟨_,_,rfl,_⟩:=S1.shape;obtain⟨_,_,rfl,_⟩:=S2.shape;simp;exact⟨rfl,rfl,rfl⟩
   intro w7 hw7;have R7:Blk w7 w.heap.size 25 [cv,rv,.bool f.els]:=hw7.blk;have E7:=E6.kept hw7.kept (by omega);have k7:Kept (fun i=>i=w.heap.size) w6 w7:=hw7.kept;have P7:PS pb (pb+1) w7 l':=P6.off R6 (fun o u hu n hn=>by
    subst hn;match o with
    | 0=>simp at hu
    | 1=>simp at hu
    | 2=>simp at hu
    | o+3=>simp at hu) (by omega) (by omega) k7
   have z7:=hw7.size;have hb7:=hb6.trans (hw7.kept.below (B:=w.heap.size) hb6.size (fun i h=>by omega));obtain⟨t1,r1,el1⟩:=P7.tl.cons;have P7':=P7;rw[el1]at P7';obtain⟨b1,o1,c1,hBp,hc,hne,c0,c1',c2,c3⟩:=P7'.hd;have cb:w7.cell? ⟨pb,0,none⟩=some (.slice (some ⟨b1,o1,none⟩) (r1.length+1) c1):=hBp.cell rfl;have hik:isKind 5 l'=decide (t1.kind=5):=by
    rw[el1]
    show (t1.kind == 5)=_
    by_cases h:t1.kind=5<;>simp[h]
   push_cast -dsimp[←hpb,cb,c0];refine⟨by omega,fun h5=>?_,fun h5=>?_⟩
   ·have hk5:isKind 5 l'=false:=by rw[hik];exact decide_eq_false (fun h=>h5 (by omega))
    refine callP_of (fail_c 3 P7) (fun _ _ h=>h.elim) ?_;rintro ce w8 ⟨ht,hb⟩;have hpe:parseR s=.error (3,(Cae.hd l').pos):=by
     unfold parseR;rw[htok];dsimp only;rw[ef];dsimp only;rw[hk5];rfl
    push_cast -dsimp[←hpb];refine leave_panic (t:=_) (by rfl) (by rfl) (R7.below hb R7.lt) (E7.below hb E7.lt) rfl (ht.mono (by omega)) hpe (hb7.trans (hb.mono hb7.size))
   ·have hk5:isKind 5 l'=true:=by rw[hik];exact decide_eq_true (by omega)
    have hpok:parseR s=.ok f:=by
     unfold parseR;rw[htok];dsimp only;rw[ef];dsimp only;rw[hk5];rfl
    have d7:cellsAt w7 ⟨w.heap.size,0,none⟩ 0 3=some [cv,rv,.bool f.els]:=R7.cellsAt;push_cast -dsimp[←hpb,d7];refine storeAgg (xt:=25) (n:=3) (by kernel_rfl) R7 rfl (Nat.le_refl _) ?_ ?_
    ·obtain⟨_,_,rfl,_⟩:=S1.shape;obtain⟨_,_,rfl,_⟩:=S2.shape;simp;exact⟨rfl,rfl,rfl⟩
    intro w8 hw8;have R8:Blk w8 w.heap.size 25 [cv,rv,.bool f.els]:=hw8.blk;have E8:=E7.kept hw8.kept (by omega);have z8:=hw8.size;push_cast -dsimp[←hpb];refine storeK_of E8 (by simp) rfl ?_;intro w9 hw9;have E9:Blk w9 (w.heap.size+1) 32 [.nilIface]:=hw9.blk;have R9:=R8.kept hw9.kept (by omega);have k69:Kept (fun i=>i<w5.heap.size) w6 w9:=((k7.weaken (Y:=fun i=>i<w5.heap.size) (fun i _ h=>by omega)).trans hw8.kept (fun i _ h=>by omega)).trans hw9.kept (fun i _ h=>by omega);have hb9:=hb7.trans (((hw8.kept.weaken (Y:=fun i=>w.heap.size≤i) (fun i _ h=>by omega)).trans hw9.kept (fun i _ h=>by omega)).below (B:=w.heap.size) hb7.size (fun i h=>h));push_cast -dsimp[←hpb];refine leave_ok (t:=_) (by rfl) (by rfl) R9 E9 rfl (.inl ⟨f,_,hpok,rfl,cv,rv,cs,rs,rfl,(S1.kept k69 (fun i h=>h)).weaken (fun i h=>by omega),(S2.kept k69 (fun i h=>h)).weaken (fun i h=>by omega),A1.imp fun a c h=>h.mono k69 (fun i h=>h) (fun i h=>by omega),A2.imp fun a c h=>h.mono k69 (fun i h=>h) (fun i h=>by omega)⟩) hb9
  ·rintro ce w6 ⟨en,pos,he',ht,hk⟩;have E6:=E5.kept hk (by omega);have R6:=R5.kept hk (by omega);have hb6:=hb5.trans (hk.below (B:=w.heap.size) hb5.size (fun i h=>by omega));have hpe:parseR s=.error (en,pos):=by
    unfold parseR;rw[htok];dsimp only;rw[he']
   push_cast -dsimp[←hpb];exact leave_panic (t:=_) (by rfl) (by rfl) R6 E6 rfl (ht.mono (by omega)) hpe hb6
 ·push_cast -dsimp;refine storeK_of E3 (by simp) rfl ?_;intro w4 hw4;have E4:Blk w4 (w.heap.size+1) 32 [.iface 96 (.pointer (some ⟨b,0,none⟩))]:=hw4.blk;have R4:=R3.kept hw4.kept (by omega);have z4:=hw4.size;have hB4:=hB.kept hw4.kept (by omega);have hb4:=hb3.trans (hw4.kept.below (B:=w.heap.size) (by omega) (fun i h=>by omega));have d4:w4.cell? ⟨w.heap.size+1,0,none⟩=some (.iface 96 (.pointer (some ⟨b,0,none⟩))):=E4.cell rfl;push_cast -dsimp;refine wp_seq (seqD (by rfl) ?_);push_cast -dsimp[d4];refine condTD (by rfl) (wp_seq ?_);refine wpD_draw (fun w'=>w'.cell? ⟨w.heap.size+1,0,none⟩=some (.iface 96 (.pointer (some ⟨b,0,none⟩)))) mixed (by kernel_rfl) d4 ?_;have d4d:w4.drew.cell? ⟨w.heap.size+1,0,none⟩=some (.iface 96 (.pointer (some ⟨b,0,none⟩))):=d4;push_cast -dsimp[d4d];refine⟨fun w'' h=>by rw[h];exact rfl,?_⟩;refine storeAgg (xt:=25) (n:=3) (by kernel_rfl) R4.drew rfl (by decide) (by simp;exact⟨rfl,rfl⟩) ?_;intro w5 hw5;have R5:Blk w5 w.heap.size 25 [.slice none 0 0,.slice none 0 0,.bool false]:=hw5.blk;have E5:=E4.drew.kept hw5.kept (by omega);have hB5:=hB4.drew.kept hw5.kept (by omega);refine⟨E5.cell rfl,?_⟩;push_cast -dsimp;refine storeK_of E5 (by simp) rfl ?_;intro w6 hw6;have E6:Blk w6 (w.heap.size+1) 32 [.iface 96 (.pointer (some ⟨b,0,none⟩))]:=hw6.blk;have R6:=R5.kept hw6.kept (by omega);have hB6:=hB5.kept hw6.kept (by omega)
  have hb6:=hb4.trans (((Kept.refl (fun i=>w.heap.size≤i) w4).drew.trans hw5.kept (fun i _ h=>by omega)).trans hw6.kept (fun i _ h=>by omega) |>.below (B:=w.heap.size) hb4.size (fun i h=>h));have hpe:parseR s=.error (en,pos):=by
   unfold parseR;rw[htok]
  refine⟨E6.cell rfl,?_⟩;push_cast -dsimp;refine wp_ret ?_;exact leave_ok (t:=_) (by rfl) (by rfl) R6 E6 rfl (.inr ⟨en,pos,b,hpe,rfl,by omega,hB6⟩) hb6
end Go.Proofs.YtodeeahdhnjpkaaGreatDoor
end
section
namespace Cae
def TB (l:List Cae.Tok):Prop:=∀t∈l,t.text.length≤1000000
def Iv {α:Type}(I:α→Prop)(p:Pa α):Prop:=∀l x l',TB l→p l=.ok (x,l')→I x∧TB l'
section
variable {α β:Type} {I:α→Prop} {J:β→Prop} {p:Pa α} {q:α→Pa β}
theorem Iv.pr {x:α}(h:I x):Iv I (pr x):=fun l y l' hl e=>by cases e;exact⟨h,hl⟩
theorem Iv.fail {e:Nat}:Iv I (pfail e):=fun l y l' _ h=>by cases h
theorem Iv.pb (h:Iv I p)(k:∀x,I x→Iv J (q x)):Iv J (pb p q):=fun l y l' hl e=>by
 obtain⟨x,l1,e1,e2⟩:=pb_ok e;obtain⟨h1,h2⟩:=h l x l1 hl e1;exact k x h1 l1 y l' h2 e2
theorem Iv.pif {cc:List Cae.Tok→Bool}{p1 p2:Pa α}(h1:Iv I p1)(h2:Iv I p2):Iv I (pif cc p1 p2):=fun l x l' hl e=>by
 unfold Cae.pif at e;split at e
 ·exact h1 l x l' hl e
 ·exact h2 l x l' hl e
theorem Iv.ite {c:Prop}[Decidable c]{p1 p2:Pa α}(h1:c→Iv I p1)(h2:¬c→Iv I p2):Iv I (if c then p1 else p2):=by
 by_cases h:c
 ·rw[if_pos h];exact h1 h
 ·rw[if_neg h];exact h2 h
end
def Tv {α:Type}(_:α):Prop:=True
theorem Iv.peek:Iv (fun t=>t.text.length≤1000000) peek:=fun l x l' hl e=>by
 cases e;refine⟨?_,hl⟩;cases l with
 | nil=>simp[hd]
 | cons t r=>exact hl t (List.mem_cons_self ..)
theorem Iv.pop:Iv Tv popP:=fun l x l' hl e=>by
 obtain⟨t,rfl,_⟩:=pop_ok e;exact⟨trivial,fun y hy=>hl y (List.mem_cons_of_mem _ hy)⟩
theorem iv_must (s:List UInt8):Iv Tv (mustP s):=Iv.pif Iv.pop Iv.fail
theorem iv_name:Iv Tv nameP:=Iv.pif (Iv.pif Iv.fail (Iv.pb Iv.peek fun t _=>Iv.pb Iv.pop fun _ _=>Iv.pr trivial)) Iv.fail
theorem iv_bin:Iv (fun c=>c=0∨c=3∨c=4∨c=5) binP :=
 Iv.pif (Iv.pb Iv.pop fun _ _=>Iv.pr (by simp)) (Iv.pif (Iv.pb Iv.pop fun _ _=>Iv.pr (by simp)) (Iv.pif (Iv.pb Iv.pop fun _ _=>Iv.pr (by simp)) (Iv.pr (by simp))))
theorem iv_kindLoop {one:Pa KindP}(h:Iv KindOk one)(pos:Nat):∀(n:Nat) (k:KindP),KindOk k→Iv KindOk (kindLoop one pos n k)
 | 0,k,_=>Iv.fail
 | n+1,k,hk=>Iv.pb iv_bin fun c hc=>Iv.ite (fun _=>Iv.pr hk) fun hc0=>Iv.pb h fun r hr=>iv_kindLoop h pos n _ ⟨hk,hr,by rcases hc with hc|hc;exact absurd hc hc0;exact hc⟩
theorem iv_kindW {one:Pa KindP}(h:Iv KindOk one):Iv KindOk (kindW one):=Iv.pb Iv.peek fun t _=>Iv.pb h fun k hk=>iv_kindLoop h _ _ _ hk
theorem iv_lit:Iv KindOk litP:=Iv.pb Iv.peek fun t ht=>by
 cases hs:setP t.text with
 | none=>exact Iv.fail
 | some s =>
  refine Iv.pb Iv.pop fun _ _=>Iv.pr ?_;have h1:=setP_ok hs;refine⟨h1.1,?_⟩;have h2:printP s=t.text:=h1.2;have h3:=(join_bounds (s.map rgP) [32] (by decide)).2;have h4:(printP s).length=(Go.Lib.join (s.map rgP) [32]).length+2:=by simp[printP]
  rw[h2]at h4;rw[List.length_map]at h3;omega
theorem iv_one:∀d,Iv KindOk (oneP d)
 | 0=>Iv.fail
 | d+1=>Iv.pif iv_lit (Iv.pif (Iv.pb Iv.peek fun t _=>Iv.pb Iv.pop fun _ _=>Iv.pb (iv_one d) fun k hk=>Iv.pr hk)
   (Iv.pif (Iv.pb Iv.pop fun _ _=>Iv.pb (iv_kindW (iv_one d)) fun k hk=>Iv.pb (iv_must _) fun _ _=>Iv.pr hk)
    (Iv.pb Iv.peek fun t _=>Iv.pb iv_name fun n _=>Iv.pr trivial)))
theorem iv_times:Iv (fun n=>n≤12) timesP:=Iv.pif (Iv.pb Iv.peek fun t _=>Iv.ite (fun _=>Iv.fail) fun h=>Iv.pb Iv.pop fun _ _=>Iv.pr (by omega)) Iv.fail
def RgOk (q:Int×Int):Prop:=0≤q.1∧q.1<100∧q.2<100∧(q.2<0∨q.1≤q.2)
theorem iv_braces:Iv RgOk bracesP:=Iv.pb iv_times fun lo hlo=>Iv.pif (Iv.pb Iv.pop fun _ _=>Iv.pif
  (Iv.pb iv_times fun hi hhi=>Iv.ite (fun _=>Iv.fail) fun hh=>Iv.pb (iv_must _) fun _ _=>Iv.pr ⟨by show 0≤(lo:Int);omega,by show (lo:Int)<100;omega,by show (hi:Int)<100;omega,.inr (by show (lo:Int)≤hi;omega)⟩)
  (Iv.pb (iv_must _) fun _ _=>Iv.pr ⟨by show 0≤(lo:Int);omega,by show (lo:Int)<100;omega,by show (-1:Int)<100;omega,.inl (by show (-1:Int)<0;omega)⟩))
 (Iv.pb (iv_must _) fun _ _=>Iv.pr ⟨by show 0≤(lo:Int);omega,by show (lo:Int)<100;omega,by show (lo:Int)<100;omega,.inr (Int.le_refl _)⟩)
theorem iv_suffix:Iv (fun o=>∀q,o=some q→RgOk q) suffixP:=by
 have h:∀r:Int×Int,RgOk r→Iv (fun o=>∀q,o=some q→RgOk q) (pb popP fun _=>pr (some r)):=fun r hr=>Iv.pb Iv.pop fun _ _=>Iv.pr (by intro q e;cases e;exact hr);refine Iv.pif (h _ (by unfold RgOk;decide)) (Iv.pif (h _ (by unfold RgOk;decide)) (Iv.pif (h _ (by unfold RgOk;decide)) (Iv.pif ?_ (Iv.pr (by intro q e;cases e)))));exact Iv.pb Iv.pop fun _ _=>Iv.pb iv_braces fun r hr=>Iv.pr (by intro q e;cases e;exact hr)
theorem iv_againLoop (d:Nat):∀(n c:Nat) (x:PatP),PatOk x→Iv PatOk (againLoop d n c x)
 | 0,_,_,_=>Iv.fail
 | n+1,c,x,hx=>Iv.pb iv_suffix fun r hr=>by
   cases r with
   | none=>exact Iv.pr hx
   | some q =>
    have hq:=hr q rfl;refine Iv.ite (fun _=>Iv.fail) fun _=>iv_againLoop d n (c+1) _ ?_;simp only[PatOk];exact⟨hx,hq.1,hq.2.1,hq.2.2⟩
theorem iv_againW {d:Nat}{unit:Pa PatP}(h:Iv PatOk unit):Iv PatOk (againW d unit):=Iv.pb h fun x hx=>iv_againLoop d _ _ _ hx
theorem patsOk_snoc:∀{l:List PatP} {x:PatP},PatsOk l→PatOk x→PatsOk (l++[x])
 | [],x,_,h=>by simp only[List.nil_append,PatsOk];exact⟨h,trivial⟩
 | y::l,x,hl,h=>by
  simp only[PatsOk,List.cons_append]at hl ⊢
  exact⟨hl.1,patsOk_snoc hl.2 h⟩
theorem patsOk_nil:PatsOk []:=by simp only[PatsOk]
theorem iv_rowLoop {again:Pa PatP}(h:Iv PatOk again):∀(n:Nat) (a:List PatP),PatsOk a→Iv PatsOk (rowLoop again n a)
 | 0,_,_=>Iv.fail
 | n+1,a,ha=>Iv.pif (Iv.pb h fun x hx=>iv_rowLoop h n _ (patsOk_snoc ha hx)) (Iv.pr ha)
theorem rowOf_ok {l:List PatP}(h:PatsOk l):PatOk (rowOf l):=by
 match l with
 | []=>simp only[rowOf,PatOk];exact h
 | [x]=>simp only[PatsOk]at h;exact h.1
 | x::y::l=>simp only[rowOf,PatOk];exact h
theorem altOf_ok {l:List PatP}(h:PatsOk l):PatOk (altOf l):=by
 match l with
 | []=>simp only[altOf,PatOk];exact h
 | [x]=>simp only[PatsOk]at h;exact h.1
 | x::y::l=>simp only[altOf,PatOk];exact h
theorem iv_rowW {again:Pa PatP}(h:Iv PatOk again):Iv PatOk (rowW again):=Iv.pb (iv_rowLoop h _ _ patsOk_nil) fun ps hps=>Iv.pr (rowOf_ok hps)
theorem iv_altLoop {row:Pa PatP}(h:Iv PatOk row):∀(n:Nat) (a:List PatP),PatsOk a→Iv PatsOk (altLoop row n a)
 | 0,_,_=>Iv.fail
 | n+1,a,ha=>Iv.pif (Iv.pb Iv.pop fun _ _=>Iv.pb h fun x hx=>iv_altLoop h n _ (patsOk_snoc ha hx)) (Iv.pr ha)
theorem iv_altW {row:Pa PatP}(h:Iv PatOk row):Iv PatOk (altW row):=Iv.pb h fun x hx=>Iv.pb (iv_altLoop h _ _ (patsOk_snoc patsOk_nil hx)) fun ps hps=>Iv.pr (altOf_ok hps)
theorem iv_patW {d:Nat}{unit:Pa PatP}(h:Iv PatOk unit):Iv PatOk (patW d unit):=Iv.ite (fun _=>Iv.fail) fun _=>iv_altW (iv_rowW (iv_againW h))
theorem iv_unit:∀d,Iv PatOk (unitP d)
 | 0=>Iv.fail
 | d+1=>Iv.pif (Iv.pb Iv.pop fun _ _=>Iv.pr (by simp only[PatOk])) (Iv.pif (Iv.pb Iv.pop fun _ _=>Iv.pr (by simp only[PatOk]))
   (Iv.pif (Iv.pb Iv.pop fun _ _=>Iv.pb (iv_patW (iv_unit d)) fun x hx=>Iv.pb (iv_must _) fun _ _=>Iv.pr hx)
    (Iv.pif (Iv.pb (iv_one (d+1)) fun k hk=>Iv.pr (by simp only[PatOk];exact hk)) Iv.fail)))
theorem iv_pat (d:Nat):Iv PatOk (patP d):=iv_patW (iv_unit d)
theorem iv_says:Iv Tv saysP:=Iv.pif (Iv.pb Iv.pop fun _ _=>Iv.pr trivial) (Iv.pb (iv_must _) fun _ _=>Iv.pr trivial)
theorem iv_rule:Iv (fun r=>PatOk r.before∧PatOk r.after) ruleP:=Iv.pb Iv.peek fun t _=>Iv.pb iv_says fun b _=>Iv.pb (iv_pat 9) fun x hx=>Iv.pb (iv_must _) fun _ _=>Iv.pb (iv_pat 9) fun y hy=>Iv.pb (iv_must _) fun _ _=>Iv.pr ⟨hx,hy⟩
theorem iv_class:Iv (fun c=>KindOk c.kind) classP:=Iv.pb Iv.peek fun t _=>Iv.pb (iv_must _) fun _ _=>Iv.pb iv_name fun n _=>Iv.pb (iv_must _) fun _ _=>Iv.pb (iv_kindW (iv_one 9)) fun k hk=>Iv.pb (iv_must _) fun _ _=>Iv.pr hk
theorem iv_ruleLoop:∀(n:Nat) (acc:List RuleP),acc.length≤20∧(∀r∈acc,PatOk r.before∧PatOk r.after)→Iv (fun l=>l.length≤20∧∀r∈l,PatOk r.before∧PatOk r.after) (ruleLoop n acc)
 | 0,_,_=>Iv.fail
 | n+1,acc,ha=>Iv.pif (Iv.ite (fun _=>Iv.fail) fun h=>Iv.pb iv_rule fun r hr=>iv_ruleLoop n _ ⟨by have:=ha.1;rw[List.length_append,List.length_singleton];omega,fun x hx=>by
   rcases List.mem_append.1 hx with hx|hx
   ·exact ha.2 x hx
   ·rw[List.mem_singleton.1 hx];exact hr⟩) (Iv.pr ha)
theorem iv_classLoop:∀(n:Nat) (acc:List ClassP),acc.length≤20∧(∀c∈acc,KindOk c.kind)→Iv (fun l=>l.length≤20∧∀c∈l,KindOk c.kind) (classLoop n acc)
 | 0,_,_=>Iv.fail
 | n+1,acc,ha=>Iv.pif (Iv.ite (fun _=>Iv.fail) fun h=>Iv.pb iv_class fun r hr=>iv_classLoop n _ ⟨by have:=ha.1;rw[List.length_append,List.length_singleton];omega,fun x hx=>by
   rcases List.mem_append.1 hx with hx|hx
   ·exact ha.2 x hx
   ·rw[List.mem_singleton.1 hx];exact hr⟩) (Iv.pr ha)
theorem iv_file:Iv (fun f=>FileOk f∧f.classes.length≤20∧f.rules.length≤20) fileP:=Iv.pb (iv_classLoop _ _ ⟨by simp,by simp⟩) fun cs hcs=>Iv.pb (iv_ruleLoop _ _ ⟨by simp,by simp⟩) fun rs hrs =>
 Iv.pb (I:=Tv) (fun l x l' hl e=>⟨trivial,(show Iv Tv elseP from Iv.pif (Iv.pb Iv.pop fun _ _=>Iv.pb iv_says fun _ _=>Iv.pb (iv_must _) fun _ _=>Iv.pr trivial) (Iv.pr trivial)) l x l' hl e |>.2⟩) fun b _=>Iv.pr ⟨⟨hcs.2,hrs.2⟩,hcs.1,hrs.1⟩
end Cae
namespace Go.Proofs.YtodeeahdhnjpkaaGreatDoor
open Go.Vc Go.Proofs Go.RowKit Cae
attribute [local irreducible] wpL callK valK unitK runK Fun Sl Vc.Own vc vcOps opK pureK
theorem parse_ok {s:List UInt8}{f:FileP}(hs:s.length≤1000000)(h:parseR s=.ok f):FileOk f∧f.classes.length≤20∧f.rules.length≤20:=by
 unfold parseR at h;split at h
 ·cases h
 ·rename_i l hl;have htl:=tl_of hs hl;split at h
  ·cases h
  ·rename_i f' l' hf;split at h
   ·cases h;exact(iv_file _ _ _ htl.txt hf).1
   ·cases h
end Go.Proofs.YtodeeahdhnjpkaaGreatDoor
end
section
namespace Cae
abbrev NamesP:=List (List UInt8×List Rg)
def findN (n:List UInt8):NamesP→Option (List Rg)
 | []=>none
 | x::l=>if x.1=n then some x.2 else findN n l
def kindS (nm:NamesP):KindP→Except Nat (List Rg)
 | .lit _ s=>.ok s
 | .ref pos n=>match findN n nm with
  | some s=>.ok s
  | none=>.error pos
 | .not _ k=>match kindS nm k with
  | .ok s=>.ok (setNot s)
  | .error e=>.error e
 | .bin c _ k r=>match kindS nm k with
  | .error e=>.error e
  | .ok s=>match kindS nm r with
   | .error e=>.error e
   | .ok t=>.ok (if c=3 then setOr s t else if c=4 then setAnd s t else setLess s t)
def namesS:NamesP→List ClassP→Except (Nat×Nat) NamesP
 | nm,[]=>.ok nm
 | nm,c::l=>if (findN c.name nm).isSome then .error (5,c.pos) else match kindS nm c.kind with
  | .error e=>.error (6,e)
  | .ok s=>namesS (nm++[(c.name,s)]) l
mutual
def patS (nm:NamesP):PatP→Option Nat
 | .one k=>match kindS nm k with
  | .error e=>some e
  | .ok _=>none
 | .any=>none
 | .edge=>none
 | .cat l=>patsS nm l
 | .alt l=>patsS nm l
 | .many x _ _=>patS nm x
def patsS (nm:NamesP):List PatP→Option Nat
 | []=>none
 | x::l=>match patS nm x with
  | some e=>some e
  | none=>patsS nm l
end
def ruleS (nm:NamesP)(r:RuleP):Option Nat:=match patS nm r.before with
 | some e=>some e
 | none=>patS nm r.after
def rulesS (nm:NamesP):List RuleP→Option Nat
 | []=>none
 | r::l=>match ruleS nm r with
  | some e=>some e
  | none=>rulesS nm l
def RightN (nm:NamesP):Prop:=∀x∈nm,setRight (-2) x.2=true
theorem findN_right {nm:NamesP}(h:RightN nm){n:List UInt8}{s:List Rg}(hf:findN n nm=some s):setRight (-2) s=true:=by
 induction nm with
 | nil=>cases hf
 | cons x l ih =>
  rw[findN]at hf;split at hf
  ·cases hf;exact h x (List.mem_cons_self ..)
  ·exact ih (fun y hy=>h y (List.mem_cons_of_mem _ hy)) hf
theorem kindS_right {nm:NamesP}(h:RightN nm):∀{k:KindP} {s:List Rg},KindOk k→kindS nm k=.ok s→setRight (-2) s=true
 | .lit _ s0,s,hk,e=>by cases e;exact hk.1
 | .ref pos n,s,hk,e=>by
  rw[kindS]at e;split at e
  ·rename_i t ht;cases e;exact findN_right h ht
  ·cases e
 | .not _ k,s,hk,e=>by
  rw[kindS]at e;split at e
  ·rename_i t ht;cases e;exact setNot_right (kindS_right (k:=k) h hk ht)
  ·cases e
 | .bin c _ k r,s,hk,e=>by
  rw[kindS]at e;split at e
  ·cases e
  ·split at e
   ·cases e
   ·cases e;split
    ·exact setOr_right _ _
    ·split
     ·exact setAnd_right _ _
     ·exact setLess_right _ _
mutual
def KindsIn (Q:KindP→Prop):PatP→Prop
 | .one k=>Q k
 | .any=>True
 | .edge=>True
 | .cat l=>KindsAll Q l
 | .alt l=>KindsAll Q l
 | .many x _ _=>KindsIn Q x
def KindsAll (Q:KindP→Prop):List PatP→Prop
 | []=>True
 | x::l=>KindsIn Q x∧KindsAll Q l
end
mutual
def bareP (S:KindP→List Rg):PatP→PatP
 | .one k=>.one (.lit 0 (S k))
 | .any=>.any
 | .edge=>.edge
 | .cat l=>.cat (bareL S l)
 | .alt l=>.alt (bareL S l)
 | .many x lo hi=>.many (bareP S x) lo hi
def bareL (S:KindP→List Rg):List PatP→List PatP
 | []=>[]
 | x::l=>bareP S x::bareL S l
end
section
variable {has has':KindP→Int→Prop} {pts:List Int} {back:Bool} {S:KindP→List Rg}
end
end Cae
end
