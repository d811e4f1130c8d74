/- Texts of this claim, merged: Rr8, Rr9, Rrb, Rrc, IsB, Rfo, Vrg, Mxm. -/
import Derived.Test.YtodeeahdhnjpkaaGreatDoorM12
import Derived.Maps.RangeRun
set_option maxRecDepth 100000
set_option linter.unusedSimpArgs false
set_option linter.unusedVariables false
set_option maxHeartbeats 8000000
section
namespace Cae
def altCont (row:Pa PatP)(m:Nat)(acc:List PatP):Pa PatP:=pb (altLoop row m acc) fun ps=>pr (altOf ps)
theorem altW_cont (row:Pa PatP):altW row=pb row fun x=>altCont row 1000 [x]:=rfl
theorem altCont_stop {row:Pa PatP}{m:Nat}{acc:List PatP}{l:List Cae.Tok}(h:seeP [124] l=false):altCont row (m+1) acc l=.ok (altOf acc,l):=by
 unfold altCont;rw[altLoop];unfold pb pif;rw[h];rfl
theorem altCont_more {row:Pa PatP}{m:Nat}{acc:List PatP}{l r:List Cae.Tok}(h:seeP [124] l=true)(hp:popP l=.ok ((),r)):altCont row (m+1) acc l=pb row (fun x=>altCont row m (acc++[x])) r:=by
 have e:altLoop row (m+1) acc l=pb row (fun x=>altLoop row m (acc++[x])) r:=by
  rw[altLoop]
  show (if seeP [124] l=true then pb popP (fun _=>pb row _) l else _)=_
  rw[if_pos h,pb_of hp]
 unfold altCont;unfold pb at e ⊢
 rw[e];cases row r with
 | ok x=>rfl
 | error e=>rfl
end Cae
namespace Go.Proofs.YtodeeahdhnjpkaaGreatDoor
open Go.Vc Go.Proofs Go.RowKit Cae
attribute [local irreducible] wpL callK valK unitK runK Fun Sl Vc.Own vc vcOps opK pureK
@[reducible] def szR {rb B:Nat} {w:World} {l:List Cae.Tok} {bad:Option (Nat×Nat)} (_:RS rb B w l bad):Nat:=w.heap.size
theorem LVs.swap {S xb:Nat}{code:Int}{w:World}{sv:Value}{us:List (Option Addr)}{acc acc':Option (List PatP)}(h:LVs S xb code w sv us acc)(h':LV S xb code w us acc'):LVs S xb code w sv us acc':=by
 obtain⟨sv',h'⟩:=h';have c1:w.cell? ⟨xb,2,none⟩=some sv:=h.blk.cell rfl;have c2:w.cell? ⟨xb,2,none⟩=some sv':=h'.blk.cell rfl;have e:sv'=sv:=Option.some.inj (c2.symm.trans c1);subst e;exact h'
def moreN (v:Value):Nat:=match v with
 | .bool true=>1
 | _=>0
def AltI (d:Nat)(S xb rb B:Nat)(w':World)(more:Bool)(us:List (Option Addr))(out:Except (Nat×Nat) (PatP×List Cae.Tok)):Prop :=
 (∃(m:Nat) (acc:List PatP) (l1:List Cae.Tok),LV S xb 5 w' us (some acc)∧RS rb B w' l1 none∧(more=true→l1.length<m)∧acc.length+m≤1001 ∧
  (if more=true then out=Cae.pb (rowW (againW d (unitP d))) (fun x=>altCont (rowW (againW d (unitP d))) m (acc++[x])) l1 else out=.ok (altOf acc,l1))) ∨
 (∃(e:Nat×Nat) (l1:List Cae.Tok),LV S xb 5 w' us none∧out=.error e∧RS rb B w' l1 (some e)∧us.length≤1001+if more=true then 0 else 1)
def RowI (d:Nat)(S xb rb B:Nat)(w':World)(us:List (Option Addr))(R:Except (Nat×Nat) (List PatP×List Cae.Tok)):Prop :=
 (∃(m:Nat) (acc:List PatP) (l1:List Cae.Tok),LV S xb 4 w' us (some acc)∧RS rb B w' l1 none∧l1.length<m∧acc.length+m≤1000∧rowLoop (againW d (unitP d)) m acc l1=R) ∨
 (∃(e:Nat×Nat) (l1:List Cae.Tok),LV S xb 4 w' us none∧R=.error e∧RS rb B w' l1 (some e)∧us.length≤1001)
def RowJ (d:Nat)(S xb rb B:Nat)(w':World)(us:List (Option Addr))(R:Except (Nat×Nat) (List PatP×List Cae.Tok)):Prop :=
 (∃(acc:List PatP) (l1:List Cae.Tok),LV S xb 4 w' us (some acc)∧RS rb B w' l1 none∧R=.ok (acc,l1)) ∨
 (∃(e:Nat×Nat) (l1:List Cae.Tok),LV S xb 4 w' us none∧R=.error e∧RS rb B w' l1 (some e)∧us.length≤1001)
theorem rpat_succ (d:Nat)(hd:d≠0)(hpart:PartR d):PatR d:=by
 intro n hn0 hn rb B w l0 bad h0;have hle:=h0.le;have hlt:=h0.lt;have hgo:∃out,outP bad (patP d) l0=out:=⟨_,rfl⟩;obtain⟨out,hout⟩:=hgo;unfold Rc RRes;rw[hout];have hgS:∃S,S=w.heap.size:=⟨_,rfl⟩;obtain⟨S,hS⟩:=hgS;rw[←hS];refine fun_of_vc Tryz.func28 rfl (by kernel_rfl) [4] rfl ?_;push_cast -dsimp(maxSteps:=4000000) [Tryz.ntmps28];refine⟨fun h8=>?_,fun h8=>?_⟩
 ·exact absurd (by omega) hd
 ·have P1:=h0;have k1:Kept (·=rb) w w:=Kept.refl _ _;have hge:∃b1,b1=bad:=⟨_,rfl⟩;obtain⟨b1,hb1⟩:=hge;rw[←hb1]at P1;have hst:(b1=none→out=altW (rowW (againW d (unitP d))) l0)∧∀e,b1=some e→out=.error e:=⟨fun h=>by
   rw[←hout,←hb1,h]
   show patP d l0=_
   unfold patP patW;rw[if_neg (by omega)],fun e h=>by rw[←hout,←hb1,h];rfl⟩
  push_cast -dsimp;have hgx:∃xb,xb=szR P1:=⟨_,rfl⟩;obtain⟨xb,hxb⟩:=hgx;refine boxK_of ?_;intro w2 hw2;have P2:=P1.below hw2.below;have k2:=k1.trans (Kept.new (X:=(·=rb)) hw2) (fun i _ h=>h);have z2:=hw2.size;have zk1:=k1.size;have B2:Blk w2 xb 129 [.int .i64 5,.pointer none,.slice none 0 0,.int .i64 0,.int .i64 0]:=by rw[hxb];exact hw2.blk
  have hSx:w.heap.size≤xb:=by rw[hxb];exact zk1
  unfold szR at hxb;rw[←hxb];have LA:LV S xb 5 w2 [] (some []):=⟨_,B2,Vc.Own.nil (enc:=encQ) _ _ (fun _=>rfl) _,fun g hg=>(by cases hg),fun l hl=>(by cases hl;exact⟨[],rfl,by simp only[PatsV]⟩),by omega⟩;have hI0:AltI d S xb rb B w2 true [] out:=by
   unfold AltI;cases hb:b1 with
   | none =>
    rw[hb]at P2;refine .inl ⟨1000,[],l0,LA,P2,fun _=>by have:=P2.tl.len;omega,by simp,?_⟩;rw[if_pos rfl,hst.1 hb,altW_cont];rfl
   | some e =>
    rw[hb]at P2;exact .inr ⟨e,l0,LA.cut (fun l h=>by cases h),hst.2 e hb,P2,by simp⟩
  push_cast -dsimp;refine wpL_loop [6,7,14,15,16,17,18,19,20,21,22,23,24,25,26,27,28,29,30,31,32,33,34,35,36,37,38,39,40,41,42,43,44,45,46,47,48,49,50,51,52,53,54,55,56,57,58,59,60,61,62,63,64,65,66,67,68,69,70,71,72,73,74,75,76,77,78,79,80] (fun z w'=>∃(more:Bool) (us:List (Option Addr)),z 6=.bool more∧Kept (·=rb) w w'∧AltI d S xb rb B w' more us out) (fun z w'=>2*muR rb w'+moreN (z 6)) ?_ ?_
  ·exact⟨true,[],rfl,k2,hI0⟩
  ·rintro z w3 ⟨more,us,hz6,k3,hI⟩;cases more with
   | false =>
    have hLL:∃acc,LV S xb 5 w3 us acc:=by
     rcases hI with ⟨_,acc,_,h,_⟩|⟨_,_,h,_⟩
     ·exact⟨_,h⟩
     ·exact⟨_,h⟩
    obtain⟨accX,svX,hLX⟩:=hLL;have hsh:=hLX.own.slice;obtain⟨xa,xc,rfl⟩:=hsh;have dX:w3.cell? ⟨xb,2,none⟩=some (.slice xa us.length xc):=hLX.blk.cell rfl;push_cast -dsimp[hz6,dX];refine⟨fun h1=>?_,fun h1=>?_⟩
    ·have hus:∃u,us=[u]:=List.length_eq_one_iff.1 (by omega);obtain⟨u,rfl⟩:=hus;have hg:=hLX.own.sl.get (i:=0) (x:=u) rfl;obtain⟨b,o,rfl,_,hcell⟩:=hg;have k0:w3.cell? ⟨b,o,none⟩=some (.pointer u):=by simpa[encQ] using hcell 0 _ rfl
     simp only[List.length_cons,List.length_nil,Nat.zero_add]at dX;push_cast -dsimp[dX,k0,Nat.zero_mul,Nat.add_zero];refine⟨k3,?_⟩;rcases hI with ⟨m,acc,l1,hL,P3,_,_,ho⟩|⟨e,l1,hL,ho,P3,_⟩
     ·have h1:=LV.one hL;obtain⟨x,ub,rfl,rfl,hV⟩:=h1;rw[if_neg (by decide)]at ho;rw[ho];exact⟨hV,P3⟩
     ·rw[ho];exact⟨⟨_,rfl⟩,_,P3⟩
    ·refine⟨k3,?_⟩;rcases hI with ⟨m,acc,l1,hL,P3,_,_,ho⟩|⟨e,l1,hL,ho,P3,_⟩
     ·have hlen:=LV.len hL;rw[if_neg (by decide)]at ho;have hro:altOf acc=.alt acc:=by
       unfold altOf;split
       ·rename_i x;simp at hlen;omega
       ·rfl
      rw[ho,hro];exact⟨LV.alt hL,P3⟩
     ·rw[ho];exact⟨⟨_,rfl⟩,_,P3⟩
   | true =>
    have zx3:=k3.size;have hlrb:=P2.lt;have hleB:=P2.le;push_cast -dsimp[hz6];refine boxK_of ?_;intro w4 hw4;have z4:=hw4.size;have hgy:∃yb,yb=w3.heap.size:=⟨_,rfl⟩;obtain⟨yb,hyb⟩:=hgy;have hgS:∃S1,S1=w3.heap.size:=⟨_,rfl⟩;obtain⟨S1,hS1⟩:=hgS;have B4:Blk w4 yb 129 [.int .i64 4,.pointer none,.slice none 0 0,.int .i64 0,.int .i64 0]:=by rw[hyb];exact hw4.blk
    rw[←hyb];have k4:Kept (·=rb) w3 w4:=Kept.new hw4;have L4:LV S1 yb 4 w4 [] (some []):=⟨_,B4,Vc.Own.nil (enc:=encQ) _ _ (fun _=>rfl) _,fun g hg=>(by cases hg),fun l hl=>(by cases hl;exact⟨[],rfl,by simp only[PatsV]⟩),by omega⟩;have hR:∃R,RowI d S1 yb rb B w4 [] R∧B≤w3.heap.size∧rb<B∧(∀racc l2,R=.ok (racc,l2)→∃m acc,LV S xb 5 w3 us (some acc)∧l2.length<m∧acc.length+m≤1001∧out=altCont (rowW (againW d (unitP d))) m (acc++[rowOf racc]) l2∧l2.length+1≤muR rb w3) ∧
      (∀e,R=.error e→LV S xb 5 w3 us none∧out=.error e∧us.length≤1001):=by
     rcases hI with ⟨m,acc,l1,hL,P3,hm,hacc,ho⟩|⟨e,l1,hL,ho,P3,hul⟩
     ·have hm:=hm rfl;rw[if_pos rfl]at ho;refine⟨rowLoop (againW d (unitP d)) 1000 [] l1,.inl ⟨1000,[],l1,L4,P3.below hw4.below,by have:=P3.tl.len;omega,by simp,rfl⟩,P3.le,P3.lt,fun racc l2 h=>?_,fun e h=>?_⟩
      ·have hrw:rowW (againW d (unitP d)) l1=.ok (rowOf racc,l2):=by unfold rowW;rw[pb_of h];rfl
       have:=row_le hrw;exact⟨m,acc,hL,by omega,hacc,by rw[ho,pb_of hrw],by rw[P3.mu];omega⟩
      ·have:=LV.len hL;refine⟨hL.cut (fun l h=>by cases h),?_,by omega⟩;rw[ho];unfold rowW Cae.pb;rw[h]
     ·exact⟨.error e,.inr ⟨e,l1,L4.cut (fun l h=>by cases h),rfl,P3.below hw4.below,by simp⟩,P3.le,P3.lt,fun _ _ h=>(by cases h),fun e' h=>(by cases h;exact⟨hL,ho,by simpa using hul⟩)⟩
    obtain⟨R,hRI,hBz,hrB,hRo,hRe'⟩:=hR;push_cast -dsimp;refine wpL_cutB [19,20,21,22,23,24,25,26,27,28,29,30,31,32,33,34,35,36,37,38,39,40,41,42,43,44,45,46,47,48,49,50,51,52,53,54,55,56,57,58] (fun z wx=>∃us2,RowJ d S1 yb rb B wx us2 R∧Kept (·=rb) w3 wx) ?_ ?_
    ·refine wpL_loopW [19,20,21,22,23,24,25,26,27,28,29,30,31,32,33,34,35,36,37,38,39,40,41,42,43,44,45,46,47,48,49,50,51,52,53,54,55,56,57,58] (fun z wx=>∃us2,RowI d S1 yb rb B wx us2 R∧Kept (·=rb) w3 wx) (fun z wx=>muR rb wx) ?_ ?_
     ·exact⟨[],hRI,k4⟩
     ·rintro z2 w5 ⟨us2,hI2,k5⟩;have z5:=k5.size;rcases hI2 with ⟨m2,racc,l2,hL2,P5,hm2,hracc,hRe⟩|⟨e,l2,hL2,hRe,P5,hul2⟩
      ·have hmu2:=P5.mu;have hcons:=P5.cons;obtain⟨t2,r2,el2⟩:=hcons;have hstP:startP l2=(t2.kind == 3 || namedP l2 || seeP [46] l2 || seeP [36] l2 || seeP [40] l2):=by unfold startP isKind;rw[el2];rfl
       have hus2:=LV.len hL2;refine wpL_seqW (wpL_seqC [19,20,21,22,23,24,25,26,27,28,29,30,31,32,33,34,35,36,37,38,39,40,41,42,43,44,45,46] (fun z wx=>z 46=.bool (startP l2)∧RS rb B wx l2 none∧Below w5.heap.size w5 wx) ?_ ?_)
       ·push_cast -dsimp;refine callK_of (rok_c P5) ?_;rintro _ w6 ⟨rfl,hb6⟩;have P6:=P5.below hb6;have P6':=P6;rw[el2]at P6';have hhd6:=P6'.hd;obtain⟨b6,o6,c6,hB6,hc6,hne6,c60,_⟩:=hhd6;have cb6:w6.cell? ⟨rb,0,none⟩=some (.slice (some ⟨b6,o6,none⟩) (r2.length+1) c6):=hB6.cell rfl;push_cast -dsimp[cb6,c60];refine⟨by omega,fun h3=>?_,fun h3=>?_⟩
        ·have hk3:(t2.kind == 3)=false:=by
          have:t2.kind≠3:=fun e=>h3 (by omega);simpa using this
         rw[hk3,Bool.false_or]at hstP;refine callK_of (risName_c P6) ?_;rintro _ w7 ⟨rfl,hb7⟩;have P7:=P6.below hb7;have k7:=hb6.trans (hb7.mono hb6.size);cases hnm:namedP l2 with
         | true =>
          have hst2:startP l2=true:=by rw[hstP,hnm];rfl
          push_cast -dsimp;exact⟨by rw[hst2],P7,k7⟩
         | false =>
          rw[hnm,Bool.false_or]at hstP;push_cast -dsimp;refine callK_of (rsee_c P7 [46]) ?_;rintro _ w8 ⟨rfl,hb8⟩;rw[okB_none,Bool.true_and];have P8:=P7.below hb8;have k8:=k7.trans (hb8.mono k7.size);cases hs1:seeP [46] l2 with
          | true =>
           have hst2:startP l2=true:=by rw[hstP,hs1];rfl
           push_cast -dsimp;exact⟨by rw[hst2],P8,k8⟩
          | false =>
           rw[hs1,Bool.false_or]at hstP;push_cast -dsimp;refine callK_of (rsee_c P8 [36]) ?_;rintro _ wa ⟨rfl,hba⟩;rw[okB_none,Bool.true_and];have Pa:=P8.below hba;have ka:=k8.trans (hba.mono k8.size);cases hs2:seeP [36] l2 with
           | true =>
            have hst2:startP l2=true:=by rw[hstP,hs2];rfl
            push_cast -dsimp;exact⟨by rw[hst2],Pa,ka⟩
           | false =>
            rw[hs2,Bool.false_or]at hstP;push_cast -dsimp;refine callK_of (rsee_c Pa [40]) ?_;rintro _ wb ⟨rfl,hbb⟩;rw[okB_none,Bool.true_and,←hstP];push_cast -dsimp;exact⟨Pa.below hbb,ka.trans (hbb.mono ka.size)⟩
        ·have hst2:startP l2=true:=by
          have:t2.kind=3:=by omega
          rw[hstP,this];rfl
         exact⟨by rw[hst2],P6,hb6⟩
       rintro z3 w6 ⟨h46,P6,hb6⟩;have L6:=hL2.below hb6;have k6:=k5.trans (Kept.rb P5.le P5.lt hb6) (fun i _ h=>h);refine wpL_of ?_;cases hst2:startP l2 with
       | true =>
        rw[hst2]at h46;push_cast -dsimp[h46];refine wpL_of ?_;push_cast -dsimp;have hm1:∃m2',m2=m2'+1:=⟨m2-1,by omega⟩;obtain⟨m2',hmm⟩:=hm1;have hstep:R=Cae.pb (againW d (unitP d)) (fun x=>rowLoop (againW d (unitP d)) m2' (racc++[x])) l2:=by
         rw[←hRe,hmm,rowLoop];unfold pif;rw[hst2,if_pos rfl]
        have hLR:=L6;obtain⟨sv,hL⟩:=hLR;have hLd:=hL.kept (Kept.refl (fun _=>False) w6).drew (fun _ h=>h.elim);have Pd:=RS.below P6 (below_drewR w6);have kd4:=Kept.trans k6 (Kept.rb (P6).le (P6).lt (below_drewR w6)) (fun i _ h=>h);have zd:(w6).drew.heap.size=(w6).heap.size:=rfl;have d2:(w6).drew.cell? ⟨yb,2,none⟩=some sv:=hLd.blk.cell rfl;refine wpL_last (fun w'=>Blk w' yb 129 [.int .i64 4,.pointer none,sv,.int .i64 0,.int .i64 0]) mixed (by kernel_rfl) (by simp) hLd.blk ?_;push_cast -dsimp[d2];refine⟨fun w'' h=>by rw[Blk.cell h (o:=2) rfl];exact rfl,?_⟩;refine callK_of (hpart n hn0 hn rb B (w6).drew l2 none Pd) ?_;rintro v9 w9 ⟨k9,hO9⟩;rw[show outP none (againW d (unitP d)) l2=againW d (unitP d) l2 from rfl]at hO9
        have z9:=k9.size;have hlr:=Pd.lt;have L9:=hLd.kept k9 (fun i h=>.inl (by omega));have hv9:∃u,v9=.pointer u:=by
         cases hp:againW d (unitP d) l2 with
         | ok q =>
          rw[hp]at hO9;obtain⟨ub,e,_⟩:=hO9.1.ptr;exact⟨_,e⟩
         | error e =>
          rw[hp]at hO9;exact hO9.1
        obtain⟨u,rfl⟩:=hv9;have B9:=L9.blk;have k9':=kd4.trans k9 (fun i _ h=>h);refine⟨B9,?_⟩;push_cast -dsimp;refine rowK elI_127 rfl rfl (by omega) ?_;intro w10 hw10;have B10:=B9.below hw10.below B9.lt;have z10:=hw10.size;refine⟨B10,?_⟩;push_cast -dsimp;refine appendK2 (base:=S1) [u] (enc:=encQ) elI_127 (L9.own.new hw10) (by rfl) (fun j y hy=>by simpa[encQ] using hw10.cell hy) encQ_one (by simp only[List.length_cons,List.length_nil];omega) (by have:=hL.lo;have:=B9.lt;omega) ?_;intro sv5 w11 hO11 hg11 hn11;have kg:Kept (fun j=>sv.ownBlock=some j) w10 w11:=Kept.grown hg11 (fun _ h=>h);have B11:=B10.kept kg (fun h=>L9.ne _ h rfl);have z11:=kg.size;refine⟨B11,?_⟩;have hsh:=hO11.slice;obtain⟨a5,c5,rfl⟩:=hsh;push_cast -dsimp;refine storeK_of B11 (by simp) rfl ?_;intro w12 hw12;have hog:∀g,sv.ownBlock=some g→S1≤g∧g<(w6).heap.size:=fun g hg=>hL.own.block g hg;have hlo1:=hL.lo;have hyl:=hL.blk.lt;have hLp:∀acc',(∀l',acc'=some l'→∃l x ub,some racc=some l∧l'=l++[x]∧u=atP ub∧PatV (·<(w6).heap.size) w9 (ptrP ub) x)→LV S1 yb 4 w12 (us2++[u]) acc':=fun acc' hu=>LV.push L9 ⟨by omega,hyl,fun g hg=>(hog g hg).2⟩ (by omega) hw10 hO11 kg hn11 hw12 hu;have k12:Kept (·=rb) w3 w12:=((k9'.trans (Kept.new (X:=(·=rb)) hw10) (fun i _ h=>h)).trans kg (fun i h1 h2=>by have:=hog _ h2;omega)).trans hw12.kept (fun i h1 h2=>by omega)
        have kP:Kept (fun i=>B≤i) w9 w12:=((Kept.new (X:=fun i=>B≤i) hw10).trans kg (fun i h1 h2=>by have:=(hog _ h2).1;omega)).trans hw12.kept (fun i h1 h2=>by omega);cases hp:againW d (unitP d) l2 with
        | ok q =>
         obtain⟨x,l3⟩:=q;rw[hp]at hO9;obtain⟨V9,P9⟩:=hO9;have P12:=P9.keptB kP (fun i h=>h);have hmu12:=P12.mu;have hl3:l3.length<l2.length:=again_less hp;have hp9:=V9.ptr;obtain⟨ub,eub,_⟩:=hp9;cases eub;push_cast -dsimp;refine⟨⟨us2++[atP ub],.inl ⟨m2',racc++[x],l3,hLp _ (fun l' h=>by cases h;exact⟨racc,x,ub,rfl,rfl,rfl,V9⟩),P12,by omega,by rw[List.length_append,List.length_singleton];omega,by rw[hstep,pb_of hp]⟩,k12⟩,by rw[hmu2,hmu12];omega⟩
        | error e =>
         rw[hp]at hO9;obtain⟨_,l3,P9⟩:=hO9;have P12:=P9.keptB kP (fun i h=>h);have hmu12:=P12.mu0;have hll:=LV.len ⟨sv,hL⟩;push_cast -dsimp;refine⟨⟨us2++[u],.inr ⟨e,l3,hLp none (fun l' h=>by cases h),?_,P12,by rw[List.length_append,List.length_singleton];omega⟩,k12⟩,by rw[hmu2,hmu12];omega⟩;rw[hstep];unfold Cae.pb;rw[hp]
       | false =>
        rw[hst2]at h46;have hRf:R=.ok (racc,l2):=by
         rw[←hRe];obtain⟨m2',rfl⟩:∃m2',m2=m2'+1:=⟨m2-1,by omega⟩;rw[rowLoop];unfold pif;rw[hst2];rfl
        push_cast -dsimp[h46];exact⟨us2,.inl ⟨racc,l2,L6,P6,hRf⟩,k6⟩
      ·refine wpL_of ?_;push_cast -dsimp;refine callK_of (rok_c P5) ?_;rintro _ w6 ⟨rfl,hb6⟩;push_cast -dsimp;exact⟨us2,.inr ⟨e,l2,hL2.below hb6,hRe,P5.below hb6,hul2⟩,k5.trans (Kept.rb P5.le P5.lt hb6) (fun i _ h=>h)⟩
    ·rintro z2 w5 ⟨us2,hJ,k5⟩;have z5:=k5.size;have hLL:∃acc,LV S1 yb 4 w5 us2 acc:=by
      rcases hJ with ⟨acc,_,h,_⟩|⟨_,_,h,_⟩
      ·exact⟨_,h⟩
      ·exact⟨_,h⟩
     obtain⟨accY,svY,hLY⟩:=hLL;have hsh:=hLY.own.slice;obtain⟨ya,yc,rfl⟩:=hsh;have dY:w5.cell? ⟨yb,2,none⟩=some (.slice ya us2.length yc):=hLY.blk.cell rfl;have hLA:(∃acc,LV S xb 5 w3 us acc)∧us.length≤1001:=by
      rcases hI with ⟨m,acc,_,h,_,_,h2,_⟩|⟨_,_,h,_,_,h2⟩
      ·exact⟨⟨_,h⟩,by have:=LV.len h;omega⟩
      ·exact⟨⟨_,h⟩,by simpa using h2⟩
     obtain⟨⟨accX,svX,hLX3⟩,husl⟩:=hLA;have hLX:=hLX3.kept k5 (fun i h=>.inl (by omega));have hsh:=hLX.own.slice;obtain⟨xa,xc,rfl⟩:=hsh;have dX:w5.cell? ⟨xb,2,none⟩=some (.slice xa us.length xc):=hLX.blk.cell rfl;have hxl:=hLX3.blk.lt;have hog:∀g,(Value.slice xa us.length xc).ownBlock=some g→S≤g∧g<w3.heap.size:=fun g hg=>hLX3.own.block g hg;push_cast -dsimp[dY];refine⟨fun h1=>?_,fun h1=>?_⟩
     ·have hus:∃u,us2=[u]:=List.length_eq_one_iff.1 (by omega);obtain⟨u,rfl⟩:=hus;have hg:=hLY.own.sl.get (i:=0) (x:=u) rfl;obtain⟨b,o,rfl,_,hcell⟩:=hg;have k0:w5.cell? ⟨b,o,none⟩=some (.pointer u):=by simpa[encQ] using hcell 0 _ rfl
      simp only[List.length_cons,List.length_nil,Nat.zero_add]at dY;have hQ:∀(racc acc:List PatP),LV S1 yb 4 w5 [u] (some racc)→∃l x ub,some acc=some l∧acc++[rowOf racc]=l++[x]∧u=atP ub∧PatV (·<w3.heap.size) w5 (ptrP ub) x:=fun racc acc h1=>by
       have h4:=LV.one h1;obtain⟨x,ub,rfl,rfl,hV⟩:=h4;exact⟨acc,x,ub,rfl,rfl,rfl,by rw[←hS1];exact hV⟩
      push_cast -dsimp[dY,k0,dX,Nat.zero_mul,Nat.add_zero];refine rowK elI_127 rfl rfl (by omega) ?_;intro w10 hw10;have BX10:=hLX.blk.below hw10.below hLX.blk.lt;have z10:=hw10.size;push_cast -dsimp;refine appendK2 (base:=S) [u] (enc:=encQ) elI_127 (hLX.own.new hw10) (by rfl) (fun j y hy=>by simpa[encQ] using hw10.cell hy) encQ_one (by simp only[List.length_cons,List.length_nil];omega) (by omega) ?_;intro sv5 w11 hO11 hg11 hn11;have kg:Kept (fun j=>(Value.slice xa us.length xc).ownBlock=some j) w10 w11:=Kept.grown hg11 (fun _ h=>h);have BX11:=BX10.kept kg (fun h=>hLX.ne _ h rfl);have z11:=kg.size;have hsh:=hO11.slice;obtain⟨a5,c5,rfl⟩:=hsh;push_cast -dsimp;refine storeK_of BX11 (by simp) rfl ?_;intro w12 hw12;have hLp:∀acc0 acc',LV S xb 5 w3 us acc0→(∀l',acc'=some l'→∃l x ub,acc0=some l∧l'=l++[x]∧u=atP ub∧PatV (·<w3.heap.size) w5 (ptrP ub) x)→LV S xb 5 w12 (us++[u]) acc':=fun acc0 acc' h0 hu=>LV.push (hLX.swap (h0.kept k5 (fun i h=>.inl (by omega)))) ⟨by omega,hxl,fun g hg=>(hog g hg).2⟩ (by omega) hw10 hO11 kg hn11 hw12 hu;have k12:Kept (·=rb) w w12:=(((k3.trans k5 (fun i _ h=>h)).trans (Kept.new (X:=(·=rb)) hw10) (fun i _ h=>h)).trans kg (fun i h1 h2=>by have:=hog _ h2;omega)).trans hw12.kept (fun i h1 h2=>by omega);have kP:Kept (fun i=>B≤i) w5 w12:=((Kept.new (X:=fun i=>B≤i) hw10).trans kg (fun i h1 h2=>by have:=(hog _ h2).1;omega)).trans hw12.kept (fun i h1 h2=>by omega);have zc:=k12.size;rcases hJ with ⟨racc,l2,hLJ,P5,hRe⟩|⟨e,l2,hLJ,hRe,P5,hul2⟩
      ·have hr:=hRo racc l2 hRe;obtain⟨m,acc,hLA,hm,hacc,ho,hmu3⟩:=hr;have hm1:∃m',m=m'+1:=⟨m-1,by omega⟩;obtain⟨m',rfl⟩:=hm1;have P12:=P5.keptB kP (fun i h=>h);have hLn:LV S xb 5 w12 (us++[u]) (some (acc++[rowOf racc])):=hLp _ _ hLA (fun l' h=>by cases h;exact hQ racc acc hLJ);have hll:=LV.len hLn;rw[List.length_append,List.length_append,List.length_singleton,List.length_singleton]at hll;push_cast -dsimp;refine callK_of (rtake_c P12 [124]) ?_;rintro _ w13 hT;rcases hT with ⟨_,hs1,rfl,t1,r1,el1,h51,P13,kt⟩|⟨hs1,rfl,P13,b13⟩
       ·have hpop:popP l2=.ok ((),r1):=by rw[el1];exact popP_cons h51
        have hl1:l2.length=r1.length+1:=by rw[el1,List.length_cons]
        have hmu13:=P13.mu;push_cast -dsimp;refine⟨⟨true,us++[u],rfl,k12.trans kt (fun i _ h=>h),.inl ⟨m',acc++[rowOf racc],r1,hLn.kept kt (fun i h=>by omega),P13,fun _=>by omega,by rw[List.length_append,List.length_singleton];omega,?_⟩⟩,?_⟩
        ·rw[if_pos rfl,ho,altCont_more hs1 hpop]
        ·simp only[moreN,hz6];omega
       ·rw[okB_none,Bool.true_and]at hs1;have hmu13:=P13.mu;push_cast -dsimp;refine⟨⟨false,us++[u],rfl,k12.trans (Kept.rb P12.le P12.lt b13) (fun i _ h=>h),.inl ⟨m',acc++[rowOf racc],l2,hLn.below b13,P13,(fun h=>by cases h),by rw[List.length_append,List.length_singleton];omega,?_⟩⟩,?_⟩
        ·rw[if_neg (by decide),ho,altCont_stop hs1]
        ·simp only[moreN,hz6];omega
      ·have hr:=hRe' e hRe;obtain⟨hLA,ho,hul⟩:=hr;have P12:=P5.keptB kP (fun i h=>h);have hLn:LV S xb 5 w12 (us++[u]) none:=hLp _ none hLA (fun l' h=>by cases h);push_cast -dsimp;refine callK_of (rtake_c P12 [124]) ?_;rintro _ w13 hT;rcases hT with ⟨hbad,_⟩|⟨hs1,rfl,P13,b13⟩
       ·cases hbad
       ·have hmu13:=P13.mu0;push_cast -dsimp;refine⟨⟨false,us++[u],rfl,k12.trans (Kept.rb P12.le P12.lt b13) (fun i _ h=>h),.inr ⟨e,l2,hLn.below b13,ho,P13,by rw[List.length_append,List.length_singleton,if_neg (by decide)];omega⟩⟩,?_⟩;simp only[moreN,hz6];omega
     ·have hQ:∀(racc acc:List PatP),LV S1 yb 4 w5 us2 (some racc)→∃l x ub,some acc=some l∧acc++[rowOf racc]=l++[x]∧atP yb=atP ub∧PatV (·<w3.heap.size) w5 (ptrP ub) x:=fun racc acc h1=>by
       have hlen:=LV.len h1;have hro:rowOf racc=.cat racc:=by
        unfold rowOf;split
        ·rename_i x;simp at hlen;omega
        ·rfl
       exact⟨acc,.cat racc,yb,rfl,by rw[hro],rfl,by rw[←hS1];exact LV.cat h1⟩
      push_cast -dsimp[dX];refine rowK elI_127 rfl rfl (by omega) ?_;intro w10 hw10;have BX10:=hLX.blk.below hw10.below hLX.blk.lt;have z10:=hw10.size;push_cast -dsimp;refine appendK2 (base:=S) [(atP yb)] (enc:=encQ) elI_127 (hLX.own.new hw10) (by rfl) (fun j y hy=>by simpa[encQ] using hw10.cell hy) encQ_one (by simp only[List.length_cons,List.length_nil];omega) (by omega) ?_;intro sv5 w11 hO11 hg11 hn11;have kg:Kept (fun j=>(Value.slice xa us.length xc).ownBlock=some j) w10 w11:=Kept.grown hg11 (fun _ h=>h);have BX11:=BX10.kept kg (fun h=>hLX.ne _ h rfl);have z11:=kg.size;have hsh:=hO11.slice;obtain⟨a5,c5,rfl⟩:=hsh;push_cast -dsimp;refine storeK_of BX11 (by simp) rfl ?_;intro w12 hw12;have hLp:∀acc0 acc',LV S xb 5 w3 us acc0→(∀l',acc'=some l'→∃l x ub,acc0=some l∧l'=l++[x]∧(atP yb)=atP ub∧PatV (·<w3.heap.size) w5 (ptrP ub) x)→LV S xb 5 w12 (us++[(atP yb)]) acc':=fun acc0 acc' h0 hu=>LV.push (hLX.swap (h0.kept k5 (fun i h=>.inl (by omega)))) ⟨by omega,hxl,fun g hg=>(hog g hg).2⟩ (by omega) hw10 hO11 kg hn11 hw12 hu;have k12:Kept (·=rb) w w12:=(((k3.trans k5 (fun i _ h=>h)).trans (Kept.new (X:=(·=rb)) hw10) (fun i _ h=>h)).trans kg (fun i h1 h2=>by have:=hog _ h2;omega)).trans hw12.kept (fun i h1 h2=>by omega);have kP:Kept (fun i=>B≤i) w5 w12:=((Kept.new (X:=fun i=>B≤i) hw10).trans kg (fun i h1 h2=>by have:=(hog _ h2).1;omega)).trans hw12.kept (fun i h1 h2=>by omega);have zc:=k12.size;rcases hJ with ⟨racc,l2,hLJ,P5,hRe⟩|⟨e,l2,hLJ,hRe,P5,hul2⟩
      ·have hr:=hRo racc l2 hRe;obtain⟨m,acc,hLA,hm,hacc,ho,hmu3⟩:=hr;have hm1:∃m',m=m'+1:=⟨m-1,by omega⟩;obtain⟨m',rfl⟩:=hm1;have P12:=P5.keptB kP (fun i h=>h);have hLn:LV S xb 5 w12 (us++[(atP yb)]) (some (acc++[rowOf racc])):=hLp _ _ hLA (fun l' h=>by cases h;exact hQ racc acc hLJ);have hll:=LV.len hLn;rw[List.length_append,List.length_append,List.length_singleton,List.length_singleton]at hll;push_cast -dsimp;refine callK_of (rtake_c P12 [124]) ?_;rintro _ w13 hT;rcases hT with ⟨_,hs1,rfl,t1,r1,el1,h51,P13,kt⟩|⟨hs1,rfl,P13,b13⟩
       ·have hpop:popP l2=.ok ((),r1):=by rw[el1];exact popP_cons h51
        have hl1:l2.length=r1.length+1:=by rw[el1,List.length_cons]
        have hmu13:=P13.mu;push_cast -dsimp;refine⟨⟨true,us++[(atP yb)],rfl,k12.trans kt (fun i _ h=>h),.inl ⟨m',acc++[rowOf racc],r1,hLn.kept kt (fun i h=>by omega),P13,fun _=>by omega,by rw[List.length_append,List.length_singleton];omega,?_⟩⟩,?_⟩
        ·rw[if_pos rfl,ho,altCont_more hs1 hpop]
        ·simp only[moreN,hz6];omega
       ·rw[okB_none,Bool.true_and]at hs1;have hmu13:=P13.mu;push_cast -dsimp;refine⟨⟨false,us++[(atP yb)],rfl,k12.trans (Kept.rb P12.le P12.lt b13) (fun i _ h=>h),.inl ⟨m',acc++[rowOf racc],l2,hLn.below b13,P13,(fun h=>by cases h),by rw[List.length_append,List.length_singleton];omega,?_⟩⟩,?_⟩
        ·rw[if_neg (by decide),ho,altCont_stop hs1]
        ·simp only[moreN,hz6];omega
      ·have hr:=hRe' e hRe;obtain⟨hLA,ho,hul⟩:=hr;have P12:=P5.keptB kP (fun i h=>h);have hLn:LV S xb 5 w12 (us++[(atP yb)]) none:=hLp _ none hLA (fun l' h=>by cases h);push_cast -dsimp;refine callK_of (rtake_c P12 [124]) ?_;rintro _ w13 hT;rcases hT with ⟨hbad,_⟩|⟨hs1,rfl,P13,b13⟩
       ·cases hbad
       ·have hmu13:=P13.mu0;push_cast -dsimp;refine⟨⟨false,us++[(atP yb)],rfl,k12.trans (Kept.rb P12.le P12.lt b13) (fun i _ h=>h),.inr ⟨e,l2,hLn.below b13,ho,P13,by rw[List.length_append,List.length_singleton,if_neg (by decide)];omega⟩⟩,?_⟩;simp only[moreN,hz6];omega
end Go.Proofs.YtodeeahdhnjpkaaGreatDoor
end
section
namespace Go.Proofs.YtodeeahdhnjpkaaGreatDoor
open Go.Vc Go.Proofs Go.RowKit Cae
attribute [local irreducible] wpL callK valK unitK runK Fun Sl Vc.Own vc vcOps opK pureK
theorem rpat_zero:PatR 0:=by
 intro n hn0 hn rb B w l0 bad h0;have hle:=h0.le;have hlt:=h0.lt;have hout:outP bad (patP 0) l0=.error (bad.getD (4,(Cae.hd l0).pos)):=by cases bad<;>rfl
 have hge:∃e,e=bad.getD (4,(Cae.hd l0).pos):=⟨_,rfl⟩;obtain⟨e,he⟩:=hge;unfold Rc RRes;rw[hout,←he];refine fun_of_vc Tryz.func28 rfl (by kernel_rfl) [4] rfl ?_;push_cast -dsimp(maxSteps:=4000000) [Tryz.ntmps28];refine⟨fun h8=>?_,fun h8=>by omega⟩;refine callK_of (rfails_c h0 4 (by decide)) ?_;rintro _ w1 ⟨rfl,P1,k1⟩;rw[←he]at P1;have z1:=k1.size;push_cast -dsimp;have hgx:∃xb,xb=w1.heap.size:=⟨_,rfl⟩;obtain⟨xb,hxb⟩:=hgx;refine boxK_of ?_;intro w2 hw2;have P2:=P1.below hw2.below;have k2:=k1.trans (Kept.new (X:=(·=rb)) hw2) (fun i _ h=>h);have z2:=hw2.size;have B2:Blk w2 xb 129 [.int .i64 5,.pointer none,.slice none 0 0,.int .i64 0,.int .i64 0]:=by rw[hxb];exact hw2.blk
 rw[←hxb];have LA:LV xb xb 5 w2 [] none:=⟨_,B2,Vc.Own.nil (enc:=encQ) _ _ (fun _=>rfl) _,fun g hg=>(by cases hg),fun l hl=>(by cases hl),by omega⟩;push_cast -dsimp;refine wpL_loop [6,7,14,15,16,17,18,19,20,21,22,23,24,25,26,27,28,29,30,31,32,33,34,35,36,37,38,39,40,41,42,43,44,45,46,47,48,49,50,51,52,53,54,55,56,57,58,59,60,61,62,63,64,65,66,67,68,69,70,71,72,73,74,75,76,77,78,79,80] (fun z w'=>∃(more:Bool) (us:List (Option Addr)),z 6=.bool more∧us.length+moreN (z 6)=1∧LV xb xb 5 w' us none∧RS rb B w' l0 (some e)∧Kept (·=rb) w w') (fun z w'=>moreN (z 6)) ?_ ?_
 ·exact⟨true,[],rfl,rfl,LA,P2,k2⟩
 rintro z w3 ⟨more,us,hz6,hul,hL,P3,k3⟩;rw[hz6]at hul;obtain⟨svX,hLX⟩:=hL;have hsh:=hLX.own.slice;obtain⟨xa,xc,rfl⟩:=hsh;have dX:w3.cell? ⟨xb,2,none⟩=some (.slice xa us.length xc):=hLX.blk.cell rfl;cases more with
 | false =>
  have hus:∃u,us=[u]:=List.length_eq_one_iff.1 hul;obtain⟨u,rfl⟩:=hus;have hg:=hLX.own.sl.get (i:=0) (x:=u) rfl;obtain⟨b,o,rfl,_,hcell⟩:=hg;have k0:w3.cell? ⟨b,o,none⟩=some (.pointer u):=by simpa[encQ] using hcell 0 _ rfl
  simp only[List.length_cons,List.length_nil,Nat.zero_add]at dX;push_cast -dsimp[hz6,dX,k0,Nat.zero_mul,Nat.add_zero];exact⟨k3,⟨_,rfl⟩,_,P3⟩
 | true =>
  have hus:us=[]:=List.length_eq_zero_iff.1 (by simpa[moreN] using hul);subst hus;have hle3:=P3.le;push_cast -dsimp[hz6];refine boxK_of ?_;intro w4 hw4;have z4:=hw4.size;have P4:=P3.below hw4.below;have L4:=LVs.kept hLX (Kept.new (X:=fun _=>False) hw4) (fun i h=>h.elim);have k4:=k3.trans (Kept.new (X:=(·=rb)) hw4) (fun i _ h=>h);have hgy:∃yb,yb=w3.heap.size:=⟨_,rfl⟩;obtain⟨yb,hyb⟩:=hgy;have B4:Blk w4 yb 129 [.int .i64 4,.pointer none,.slice none 0 0,.int .i64 0,.int .i64 0]:=by rw[hyb];exact hw4.blk
  have hxl:=hLX.blk.lt;rw[←hyb];push_cast -dsimp;refine wpL_cutB [19,20,21,22,23,24,25,26,27,28,29,30,31,32,33,34,35,36,37,38,39,40,41,42,43,44,45,46,47,48,49,50,51,52,53,54,55,56,57,58] (fun z wx=>Below w4.heap.size w4 wx) ?_ ?_
  ·refine wpL_loop [19,20,21,22,23,24,25,26,27,28,29,30,31,32,33,34,35,36,37,38,39,40,41,42,43,44,45,46,47,48,49,50,51,52,53,54,55,56,57,58] (fun z wx=>Below w4.heap.size w4 wx) (fun z wx=>0) ?_ ?_
   ·exact Below.refl _ _
   ·rintro z2 w5 b5;push_cast -dsimp;refine callK_of (rok_c (P4.below b5)) ?_;rintro _ w6 ⟨rfl,hb6⟩;push_cast -dsimp;exact b5.trans (hb6.mono b5.size)
  ·rintro z2 w5 b5;have z5:=b5.size;have P5:=P4.below b5;have L5:=LVs.kept L4 (Kept.of_below b5 (X:=fun i=>w4.heap.size≤i) (fun i h1 h2=>h1)) (fun i h=>.inr h);have B5:=B4.below b5 (by omega);have k5:=k4.trans (Kept.rb P4.le P4.lt b5) (fun i _ h=>h);have dY:w5.cell? ⟨yb,2,none⟩=some (.slice none 0 0):=B5.cell rfl;have dX5:w5.cell? ⟨xb,2,none⟩=some (.slice xa 0 xc):=L5.blk.cell rfl;push_cast -dsimp[dY,dX5];refine rowK elI_127 rfl rfl (by omega) ?_;intro w10 hw10;have BX10:=L5.blk.below hw10.below L5.blk.lt;have z10:=hw10.size;push_cast -dsimp;refine appendK2 (base:=xb) [atP yb] (enc:=encQ) elI_127 (L5.own.new hw10) (by rfl) (fun j y hy=>by simpa[encQ,atP] using hw10.cell hy) encQ_one (by simp) (by omega) ?_;intro sv5 w11 hO11 hg11 hn11;have kg:Kept (fun j=>(Value.slice xa 0 xc).ownBlock=some j) w10 w11:=Kept.grown hg11 (fun _ h=>h);have BX11:=BX10.kept kg (fun h=>L5.ne _ h rfl);have z11:=kg.size;have hsh:=hO11.slice;obtain⟨a5,c5,rfl⟩:=hsh;push_cast -dsimp;refine storeK_of BX11 (by simp) rfl ?_;intro w12 hw12;have hog:∀g,(Value.slice xa 0 xc).ownBlock=some g→xb≤g∧g<w5.heap.size:=fun g hg=>L5.own.block g hg;have hLp:LV xb xb 5 w12 [atP yb] none:=LV.push (T:=w5.heap.size) L5 ⟨by omega,by omega,fun g hg=>(hog g hg).2⟩ (by omega) hw10 hO11 kg hn11 hw12 (fun l' h=>by cases h);have k12:Kept (·=rb) w w12:=((k5.trans (Kept.new (X:=(·=rb)) hw10) (fun i _ h=>h)).trans kg (fun i h1 h2=>by have:=hog _ h2;omega)).trans hw12.kept (fun i h1 h2=>by omega)
   have P12:=P5.keptB (((Kept.new (X:=fun i=>B≤i) hw10).trans kg (fun i h1 h2=>by have:=hog _ h2;omega)).trans hw12.kept (fun i h1 h2=>by omega)) (fun i h=>h);push_cast -dsimp;refine callK_of (rtake_c P12 [124]) ?_;rintro _ w13 hT;rcases hT with ⟨hbad,_⟩|⟨_,rfl,P13,b13⟩
   ·cases hbad
   ·push_cast -dsimp;exact⟨⟨false,[atP yb],rfl,rfl,hLp.below b13,P13,k12.trans (Kept.rb P12.le P12.lt b13) (fun i _ h=>h)⟩,by simp only[moreN,hz6];omega⟩
theorem rknot:∀d,UnitR d∧PatR d
 | 0=>⟨runit_zero,rpat_zero⟩
 | d+1=>by
  have h:=rknot d;have hu:=runit_succ d h.2;exact⟨hu,rpat_succ (d+1) (by omega) (rpart_of (d+1) hu)⟩
theorem rpat_c (d:Nat):PatR d:=(rknot d).2
end Go.Proofs.YtodeeahdhnjpkaaGreatDoor
end
section
namespace Cae
theorem tk_mark {i:Nat}{s:List UInt8}{l:List Cae.Tok}(h:Tk i s l):∀t∈l,t.kind≠4→noMark t.text:=by
 induction h with
 | nil i=>simp
 | blank _ _ ih=>exact ih
 | note _ _ _ ih=>exact ih
 | @tok i c r l h1 h2 h3 hl ih =>
  intro t ht hk;rcases List.mem_cons.1 ht with rfl|ht
  ·have hc:c≠124∧c≠38∧c≠45:=by
    rw[nextT_cons]at hk;refine⟨?_,?_,?_⟩<;>(rintro rfl;revert hk;simp(decide:=true))
   have hx:∀x:UInt8,c≠x→(c::r).take (nextT (c::r)).2≠[x]:=by
    intro x hne he;cases hn:(nextT (c::r)).2 with
    | zero=>rw[hn]at he;cases he
    | succ n=>rw[hn,List.take_succ_cons]at he;exact hne (List.cons.inj he).1
   exact⟨hx _ hc.1,hx _ hc.2.1,hx _ hc.2.2⟩
  ·exact ih t ht hk
theorem pbe {α β:Type}{p:Pa α}{q:α→Pa β}{l:List Cae.Tok}{e:Nat×Nat}(h:p l=.error e):pb p q l=.error e:=by
 unfold pb;rw[h]
theorem pb_congr {α β:Type}{p p':Pa α}{q:α→Pa β}{l:List Cae.Tok}(h:p l=p' l):pb p q l=pb p' q l:=by
 unfold pb;rw[h]
theorem pb_as {α β γ:Type}(p:Pa α)(q:α→Pa β)(r:β→Pa γ)(l:List Cae.Tok):pb (pb p q) r l=pb p (fun x=>pb (q x) r) l:=by
 unfold pb;cases p l with
 | ok x=>rfl
 | error e=>rfl
section
variable {β:Type} {l:List Cae.Tok} {m:Nat}
theorem clsX_end {K:List ClassP→Pa β}{acc:List ClassP}(hm:l.length<m)(hs:seeP [99,108,97,115,115] l=false):pb (classLoop m acc) K l=K acc l:=by
 obtain⟨m',rfl⟩:∃m',m=m'+1:=⟨m-1,by omega⟩;refine pb_of ?_;rw[classLoop];unfold pif;rw[hs];rfl
theorem clsX_many {K:List ClassP→Pa β}{acc:List ClassP}(hs:seeP [99,108,97,115,115] l=true)(h:acc.length=20):pb (classLoop (m+1) acc) K l=.error (4,(hd l).pos):=by
 refine pbe ?_;rw[classLoop];unfold pif;rw[hs,if_pos rfl,if_pos h];rfl
theorem clsX_step {K:List ClassP→Pa β}{acc:List ClassP}(hs:seeP [99,108,97,115,115] l=true)(h:acc.length≠20):pb (classLoop (m+1) acc) K l=pb classP (fun c=>pb (classLoop m (acc++[c])) K) l:=by
 rw[←pb_as];have e:classLoop (m+1) acc l=pb classP (fun c=>classLoop m (acc++[c])) l:=by
  rw[classLoop];unfold pif;rw[hs,if_pos rfl,if_neg h]
 exact pb_congr e
theorem rulX_end {K:List RuleP→Pa β}{acc:List RuleP}(hm:l.length<m)(hs:ruleStart l=false):pb (ruleLoop m acc) K l=K acc l:=by
 obtain⟨m',rfl⟩:∃m',m=m'+1:=⟨m-1,by omega⟩;refine pb_of ?_;rw[ruleLoop];unfold pif;rw[hs];rfl
theorem rulX_many {K:List RuleP→Pa β}{acc:List RuleP}(hs:ruleStart l=true)(h:acc.length=20):pb (ruleLoop (m+1) acc) K l=.error (4,(hd l).pos):=by
 refine pbe ?_;rw[ruleLoop];unfold pif;rw[hs,if_pos rfl,if_pos h];rfl
theorem rulX_step {K:List RuleP→Pa β}{acc:List RuleP}(hs:ruleStart l=true)(h:acc.length≠20):pb (ruleLoop (m+1) acc) K l=pb ruleP (fun c=>pb (ruleLoop m (acc++[c])) K) l:=by
 rw[←pb_as];have e:ruleLoop (m+1) acc l=pb ruleP (fun c=>ruleLoop m (acc++[c])) l:=by
  rw[ruleLoop];unfold pif;rw[hs,if_pos rfl,if_neg h]
 exact pb_congr e
end
theorem pickN {p:Prop}{α:Type}(a:α){R:α→Prop}(h:p→∃x,R x):∃x,p→R x:=by
 by_cases hp:p
 ·obtain⟨x,hx⟩:=h hp;exact⟨x,fun _=>hx⟩
 ·exact⟨a,fun h=>absurd h hp⟩
end Cae
namespace Go.Proofs.YtodeeahdhnjpkaaGreatDoor
open Go.Vc Go.Proofs Go.RowKit Cae
attribute [local irreducible] wpL callK valK unitK runK Fun Sl Vc.Own vc vcOps opK pureK
theorem RRes.next {α β:Type}{rb B:Nat}{w w':World}{l:List Cae.Tok}{bad:Option (Nat×Nat)}{p:Pa α}{q:α→Pa β}{X:Except (Nat×Nat) (β×List Cae.Tok)}{V:World→Value→α→Prop}{J:Value→Prop}{r:Value}
  (h:RRes rb B w (outP bad p l) V J r w') (h1:bad=none→X=Cae.pb p q l) (h2:∀e,bad=some e→X=.error e) :
  Kept (·=rb) w w'∧∃bad' l',RS rb B w' l' bad'∧(bad'=none→bad=none∧∃x,V w' r x∧X=q x l')∧(∀e,bad'=some e→X=.error e)∧((∃x,V w' r x)∨J r):=by
 obtain⟨hk,h⟩:=h;refine⟨hk,?_⟩;cases bad with
 | some e =>
  obtain⟨hj,l',hP⟩:=h;exact⟨some e,l',hP,fun h=>(by cases h),fun e' h=>(by cases h;exact h2 _ rfl),.inr hj⟩
 | none =>
  have e1:outP none p l=p l:=rfl;rw[e1]at h;cases hp:p l with
  | ok y =>
   obtain⟨x,l'⟩:=y;rw[hp]at h;exact⟨none,l',h.2,fun _=>⟨rfl,x,h.1,by rw[h1 rfl,pb_of hp]⟩,fun e h=>(by cases h),.inl ⟨x,h.1⟩⟩
  | error e =>
   rw[hp]at h;obtain⟨hj,l',hP⟩:=h;exact⟨some e,l',hP,fun h=>(by cases h),fun e' h=>(by cases h;rw[h1 rfl];unfold Cae.pb;rw[hp]),.inr hj⟩
theorem says_of {l r:List Cae.Tok}{t:Cae.Tok}(hl:l=t::r)(h:ruleStart l=true):saysP l=.ok (seeP [98,114,101,97,107] l,r)∧t.kind≠5:=by
 subst hl;unfold ruleStart at h;unfold saysP pif;cases hb:seeP [98,114,101,97,107] (t::r) with
 | true =>
  have h5:=seeP_kind hb;exact⟨by rw[if_pos rfl,pb_of (popP_cons h5)];rfl,h5⟩
 | false =>
  rw[hb,Bool.false_or]at h;have h5:=seeP_kind h;refine⟨?_,h5⟩;rw[if_neg (by decide)];unfold mustP pif;have e:(if seeP [107,101,101,112] (t::r)=true then popP (t::r) else pfail 3 (t::r))=.ok ((),r):=by rw[if_pos h];exact popP_cons h5
  rw[pb_of e];rfl
theorem tm_of {s:List UInt8}{l:List Cae.Tok}(h:tokP s=.ok l):∀t∈l,t.kind≠4→noMark t.text:=by
 obtain⟨m,hm,e,hn⟩:=tokLoop_tk _ _ _ _ _ (by simp) h;rw[List.nil_append]at e;subst e;intro t ht hk;rcases List.mem_append.1 ht with ht|ht
 ·exact tk_mark hm t ht hk
 ·rw[List.mem_singleton.1 ht];exact⟨by simp,by simp,by simp⟩
section
variable {β:Type} {rb B:Nat} {w:World} {l:List Cae.Tok} {bad:Option (Nat×Nat)} {X:Except (Nat×Nat) (β×List Cae.Tok)}
def Nx (rb B:Nat)(X:Except (Nat×Nat) (β×List Cae.Tok))(w w':World)(J:List Cae.Tok→Prop):Prop:=Kept (·=rb) w w'∧∃bad' l',RS rb B w' l' bad'∧(bad'=none→J l')∧∀e,bad'=some e→X=.error e
theorem rmustX (s:List UInt8){q:Unit→Pa β}(hP:RS rb B w l bad)(h1:bad=none→X=Cae.pb (mustP s) q l)(h2:∀e,bad=some e→X=.error e) :
  Fun Tryz.prog 24 [.pointer (some ⟨rb,0,none⟩),str s] w fun r w'=>r=.tuple #[]∧Nx rb B X w w' fun l'=>X=q () l':=by
 refine(rmust_c hP s).mono fun r w' h=>?_;obtain⟨hk,bad',l',hP',hn,he,hv⟩:=RRes.next h h1 h2;exact⟨by rcases hv with ⟨_,h⟩|h<;>exact h,hk,bad',l',hP',fun h=>by obtain⟨_,_,_,h⟩:=hn h;exact h,he⟩
theorem rnameX {q:List UInt8→Pa β}(hP:RS rb B w l bad)(h1:bad=none→X=Cae.pb nameP q l)(h2:∀e,bad=some e→X=.error e) :
  Fun Tryz.prog 25 [.pointer (some ⟨rb,0,none⟩)] w fun r w'=>∃nm,r=str nm∧Nx rb B X w w' fun l'=>X=q nm l':=by
 refine(rname_c hP).mono fun r w' h=>?_;obtain⟨hk,bad',l',hP',hn,he,hv⟩:=RRes.next h h1 h2;cases hb:bad' with
 | none =>
  obtain⟨_,nm,hr,hX⟩:=hn hb;exact⟨nm,hr,hk,bad',l',hP',fun _=>hX,he⟩
 | some e =>
  obtain⟨nm,hr⟩:∃nm,r=str nm:=by
   rcases hv with ⟨nm,h⟩|h
   ·exact⟨nm,h⟩
   ·exact h
  exact⟨nm,hr,hk,bad',l',hP',fun h=>(by rw[hb]at h;cases h),he⟩
theorem rkindX {q:KindP→Pa β}(hP:RS rb B w l bad)(h1:bad=none→X=Cae.pb (kindP 9) q l)(h2:∀e,bad=some e→X=.error e) :
  Fun Tryz.prog 27 [.pointer (some ⟨rb,0,none⟩),.int .i64 0] w fun r w'=>∃u,r=.pointer u∧Nx rb B X w w' fun l'=>∃x ub,u=atP ub∧KindV (·<w.heap.size) w' (ptrP ub) x∧X=q x l':=by
 refine(kind_ofR 9 (kone_all 9) 0 (by omega) (by omega) rb B w l bad hP).mono fun r w' h=>?_;obtain⟨hk,bad',l',hP',hn,he,hv⟩:=RRes.next h h1 h2;cases hb:bad' with
 | none =>
  obtain⟨_,x,hr,hX⟩:=hn hb;obtain⟨ub,rfl,_⟩:=hr.ptr;exact⟨_,rfl,hk,bad',l',hP',fun _=>⟨x,ub,rfl,hr,hX⟩,he⟩
 | some e =>
  obtain⟨u,hr⟩:∃u,r=.pointer u:=by
   rcases hv with ⟨x,h⟩|h
   ·obtain⟨ub,e,_⟩:=h.ptr;exact⟨_,e⟩
   ·exact h
  exact⟨u,hr,hk,bad',l',hP',fun h=>(by rw[hb]at h;cases h),he⟩
theorem rpatX {q:PatP→Pa β}(hP:RS rb B w l bad)(h1:bad=none→X=Cae.pb (patP 9) q l)(h2:∀e,bad=some e→X=.error e) :
  Fun Tryz.prog 28 [.pointer (some ⟨rb,0,none⟩),.int .i64 0] w fun r w'=>∃u,r=.pointer u∧Nx rb B X w w' fun l'=>∃x ub,u=atP ub∧PatV (·<w.heap.size) w' (ptrP ub) x∧X=q x l':=by
 refine(rpat_c 9 0 (by omega) (by omega) rb B w l bad hP).mono fun r w' h=>?_;obtain⟨hk,bad',l',hP',hn,he,hv⟩:=RRes.next h h1 h2;cases hb:bad' with
 | none =>
  obtain⟨_,x,hr,hX⟩:=hn hb;obtain⟨ub,rfl,_⟩:=hr.ptr;exact⟨_,rfl,hk,bad',l',hP',fun _=>⟨x,ub,rfl,hr,hX⟩,he⟩
 | some e =>
  obtain⟨u,hr⟩:∃u,r=.pointer u:=by
   rcases hv with ⟨x,h⟩|h
   ·obtain⟨ub,e,_⟩:=h.ptr;exact⟨_,e⟩
   ·exact h
  exact⟨u,hr,hk,bad',l',hP',fun h=>(by rw[hb]at h;cases h),he⟩
end
def RParsR (w:World)(s:List UInt8)(r:Value)(w':World):Prop :=
 (∃f v,parseR s=.ok f∧r=.tuple #[v,.agg #[.int .i64 0,.int .i64 (-1)]]∧FileV (·<w.heap.size) w' v f) ∨
 (∃e pos:Nat,parseR s=.error (e,pos)∧e≠0∧r=.tuple #[.agg #[.slice none 0 0,.slice none 0 0,.bool false],.agg #[.int .i64 e,.int .i64 pos]])
def encCq (a:List UInt8×Nat×Option Addr):List Value:=[str a.1,.int .i64 a.2.1,.pointer a.2.2]
def encRq (a:Nat×Bool×Option Addr×Option Addr):List Value:=[.int .i64 a.1,.bool a.2.1,.pointer a.2.2.1,.pointer a.2.2.2]
theorem encCq_one (a:List UInt8×Nat×Option Addr):∀u∈encCq a,u.oneCell'=true:=by
 intro u hu;simp[encCq]at hu;rcases hu with rfl|rfl|rfl<;>rfl
theorem encRq_one (a:Nat×Bool×Option Addr×Option Addr):∀u∈encRq a,u.oneCell'=true:=by
 intro u hu;simp[encRq]at hu;rcases hu with rfl|rfl|rfl|rfl<;>rfl
def cQ (a:List UInt8×Nat×Nat):List UInt8×Nat×Option Addr:=(a.1,a.2.1,atP a.2.2)
def rQ (a:Nat×Bool×Nat×Nat):Nat×Bool×Option Addr×Option Addr:=(a.1,a.2.1,atP a.2.2.1,atP a.2.2.2)
theorem Sl.coded {α β:Type}{X:Nat→Prop}{k:Nat}{f:α→β}{enc:α→List Value}{enc':β→List Value}(hf:∀x,enc' (f x)=enc x){w:World}{v:Value}{l:List α}(h:Sl X k (En enc') w v (l.map f)):Sl X k (En enc) w v l:=by
 unfold Sl at h ⊢
 obtain⟨a,c,rfl,hc,h⟩:=h;refine⟨a,c,by rw[List.length_map],by rw[List.length_map]at hc;exact hc,fun i x hx=>?_⟩;obtain⟨b,o,cs,ha,hb,hcs,hcell,hr⟩:=h i (f x) (by rw[List.getElem?_map,hx];rfl);exact⟨b,o,cs,ha,hb,hcs,hcell,by have hr':cs=enc' (f x):=hr;rw[hf]at hr';exact hr'⟩
def ClsI (X:Except (Nat×Nat) (FileP×List Cae.Tok))(rb B ob:Nat)(w':World)(cv:Value)(cq:List (List UInt8×Nat×Option Addr))(bad:Option (Nat×Nat))(l1:List Cae.Tok)(K:List ClassP→Except (Nat×Nat) (FileP×List Cae.Tok)):Prop :=
 RS rb B w' l1 bad∧Blk w' ob 25 [cv,.slice none 0 0,.bool true]∧Vc.Own (ob+1) 74 3 encCq w' cv cq ∧
 (bad=none→∃acc cs,X=K acc∧cq=cs.map cQ∧cq.length≤20∧All2 (ClsR (fun b=>b<ob+1∨cv.ownBlock=some b) w') cs acc)∧(∀e,bad=some e→X=.error e)
def RulI (X:Except (Nat×Nat) (FileP×List Cae.Tok))(rb B ob:Nat)(cv:Value)(p0:Prop)(S:Nat)(w':World)(rv:Value)(rq:List (Nat×Bool×Option Addr×Option Addr))(bad:Option (Nat×Nat))(l1:List Cae.Tok)(K:List RuleP→Except (Nat×Nat) (FileP×List Cae.Tok)):Prop :=
 RS rb B w' l1 bad∧Blk w' ob 25 [cv,rv,.bool true]∧Vc.Own S 60 4 encRq w' rv rq ∧
 (bad=none→p0∧∃acc rs,X=K acc∧rq=rs.map rQ∧rq.length≤20∧All2 (RulR (fun b=>b<S∨rv.ownBlock=some b) w') rs acc)∧(∀e,bad=some e→X=.error e)
end Go.Proofs.YtodeeahdhnjpkaaGreatDoor
end
section
namespace Go.Proofs.YtodeeahdhnjpkaaGreatDoor
open Go.Vc Go.Proofs Go.RowKit Cae
attribute [local irreducible] wpL callK valK unitK runK Fun Sl Vc.Own vc vcOps opK pureK
theorem refParse_c (s:List UInt8)(hs:s.length≤1000000)(w:World)(hg:Gr w):Fun Tryz.prog 5 [str s] w fun r w'=>RParsR w s r w'∧Below w.heap.size w w':=by
 refine fun_of_wLC Tryz.func5 rfl (by kernel_rfl) [.cell 2 25,.cell 3 28] rfl ?_;push_cast -dsimp(maxSteps:=4000000) [Tryz.ntmps5];refine wpL_seqV ?_;push_cast -dsimp;refine allocK (z:=[.slice none 0 0,.slice none 0 0,.bool false]) (by kernel_rfl) ?_;intro w1 hw1;have R1:Blk w1 w.heap.size 25 [.slice none 0 0,.slice none 0 0,.bool false]:=hw1.blk;have z1:=hw1.size;have b1:=hw1.below;push_cast -dsimp;refine allocK (z:=[.int .i64 0,.int .i64 0]) (by kernel_rfl) ?_;intro w2 hw2;have E2:Blk w2 w1.heap.size 28 [.int .i64 0,.int .i64 0]:=hw2.blk;have R2:=R1.below hw2.below (by omega);have z2:=hw2.size;have b2:=b1.trans (hw2.below.mono (by omega));have hge:∃eb,eb=w1.heap.size:=⟨_,rfl⟩;obtain⟨eb,heb⟩:=hge;rw[←heb]at E2;push_cast -dsimp[←heb];refine wpL_seqV ?_;push_cast -dsimp;have hg2:=hg.below b2;refine callK_of (rtokens_c s hs w2 hg2) ?_;rintro r w3 ⟨hT,b3⟩;have R3:=R2.below b3 (by omega);have E3:=E2.below b3 (by omega);have z3:=b3.size;have hb3:=b2.trans (b3.mono (by omega));have hg3:=hg.below hb3;unfold RTokR at hT;rcases hT with ⟨l,v,htok,rfl,hO⟩|⟨en,pos,htok,hne,rfl⟩
 ·have hsh:=hO.slice;obtain⟨va,vc,rfl⟩:=hsh;push_cast -dsimp;refine allocK (z:=[.int .i64 0,.int .i64 0]) (by kernel_rfl) ?_;intro w4 hw4;have z4:=hw4.size;push_cast -dsimp;refine storeAgg (xt:=28) (n:=2) (by kernel_rfl) hw4.blk rfl (by decide) (by simp;exact⟨rfl,rfl⟩) ?_;intro w5 hw5;have F5:Blk w5 w3.heap.size 28 [.int .i64 0,.int .i64 (-1)]:=hw5.blk;have z5:=hw5.size;have b35:Below w3.heap.size w3 w5:=hw4.below.trans (hw5.kept.below (B:=w3.heap.size) (by omega) (fun i h=>by omega));have hg5:=hg.below (hb3.trans (b35.mono hb3.size));have d5:cellsAt w5 ⟨w3.heap.size,0,none⟩ 0 2=some [.int .i64 0,.int .i64 (-1)]:=F5.cellsAt;have g5:=fault_agg hg5;push_cast -dsimp;refine wpL_seqV ?_;push_cast -dsimp[d5,g5];refine wpL_seqV ?_;push_cast -dsimp[g5];refine boxK_of ?_;intro w6 hw6;have z6:=hw6.size;have b56:=hw6.below;have hgr:∃rb,rb=w5.heap.size:=⟨_,rfl⟩;obtain⟨rb,hrb⟩:=hgr;rw[←hrb];have P6:Blk w6 rb 68 (.slice va l.length vc::badV none):=by rw[hrb];exact hw6.blk
  push_cast -dsimp;refine wpL_seqV ?_;push_cast -dsimp;refine allocK (z:=[.slice none 0 0,.slice none 0 0,.bool false]) (by kernel_rfl) ?_;intro w7 hw7;have z7:=hw7.size;have hgo:∃ob,ob=w6.heap.size:=⟨_,rfl⟩;obtain⟨ob,hob⟩:=hgo;rw[←hob];push_cast -dsimp;have O7:Blk w7 ob 25 [.slice none 0 0,.slice none 0 0,.bool false]:=by rw[hob];exact hw7.blk
  refine storeAgg (xt:=25) (n:=3) (by kernel_rfl) O7 rfl (by decide) (by simp;exact⟨rfl,rfl⟩) ?_;intro w8 hw8;have z8:=hw8.size;have O8:Blk w8 ob 25 [.slice none 0 0,.slice none 0 0,.bool true]:=hw8.blk;have b58:Below w5.heap.size w5 w8:=(b56.trans (hw7.below.mono (by omega))).trans (hw8.kept.below (B:=w5.heap.size) (by omega) (fun i h=>by omega));have b38:=b35.trans (b58.mono (by omega));have hb8:=hb3.trans (b38.mono hb3.size);have R8:=R3.below b38 (by omega);have E8:=E3.below b38 (by omega);have htl:=tl_of hs htok;have htm:=tm_of htok;have S8:RS rb (rb+1) w8 l none:=by
   refine⟨⟨_,P6.below ((hw7.below.trans (hw8.kept.below (B:=w6.heap.size) (by omega) (fun i h=>by omega)))) (by omega),?_⟩,by omega,by omega,htl,htm,⟨w,hg,by omega,hb8⟩,fun e h=>by cases h⟩;exact(((Sl.top (by decide) hO.sl).below b38).weaken (fun i h=>by omega))
  have hX:∃X,X=fileP l:=⟨_,rfl⟩;obtain⟨X,hX⟩:=hX;push_cast -dsimp;refine wpL_seqW (wpL_blockW ?_);refine wpL_cutB [8,25,26,27,28,29,30,31,32,33,34,35,36,37,38,39,40,41,42,43,44,45,46,47,48,49,50,51,52,53,54,55,56,57,58,59,60] (fun z w'=>∃bad l1 cv cq,ClsI X rb (rb+1) ob w' cv cq bad l1 (fun acc=>Cae.pb (ruleLoop 1000 []) (fun rs=>Cae.pb elseP fun b=>pr ⟨acc,rs,b⟩) l1)∧Kept (fun i=>i=rb∨i=ob) w8 w') ?_ ?_
  ·refine wpL_loopW [8,25,26,27,28,29,30,31,32,33,34,35,36,37,38,39,40,41,42,43,44,45,46,47,48,49,50,51,52,53,54,55,56,57,58,59,60] (fun z w'=>∃bad l1 cv cq m,ClsI X rb (rb+1) ob w' cv cq bad l1 (fun acc=>Cae.pb (classLoop m acc) (fun cs=>Cae.pb (ruleLoop 1000 []) (fun rs=>Cae.pb elseP fun b=>pr ⟨cs,rs,b⟩)) l1)∧(bad=none→l1.length<m)∧Kept (fun i=>i=rb∨i=ob) w8 w') (fun z w'=>muR rb w') ?_ ?_
   ·refine⟨none,l,_,[],1000,⟨S8,O8,Vc.Own.nil (enc:=encCq) _ _ (fun _=>rfl) _,fun _=>⟨[],[],hX,rfl,by simp,.nil⟩,fun e h=>by cases h⟩,fun _=>by have:=htl.len;omega,Kept.refl _ _⟩
   ·rintro z w' ⟨bad,l1,cv,cq,m,⟨hP,hF,hO1,hN,hBd⟩,hm,hk⟩;have hzk:=hk.size;refine wpL_seqV ?_;push_cast -dsimp;refine callK_of (rsee_c hP [99,108,97,115,115]) ?_;rintro _ w9 ⟨rfl,b9⟩;have P9:=hP.below b9;have F9:=hF.below b9 hF.lt;have O9:=hO1.below b9;have k9:Kept (fun i=>i=rb∨i=ob) w8 w9:=hk.trans (Kept.of_below b9 (X:=fun i=>i=rb) (fun i h1 h2=>by have:=hP.le;have:=hP.lt;omega)) (fun i _ h=>.inl h);have z9:=b9.size;have hofl:=hF.lt;have hle1:=hP.le;cases hs:(okB bad && seeP [99,108,97,115,115] l1) with
    | false =>
     push_cast -dsimp;refine⟨bad,l1,cv,cq,⟨P9,F9,O9,fun h=>?_,hBd⟩,k9⟩;subst h;rw[okB_none,Bool.true_and]at hs;obtain⟨acc,cs,hX1,hcq,hcl,hV⟩:=hN rfl;exact⟨acc,cs,hX1.trans (clsX_end (hm rfl) hs),hcq,hcl,hV.imp fun a c h=>⟨h.1,h.2.1,h.2.2.below b9⟩⟩
    | true =>
     have hbn:bad=none:=by
      cases bad with
      | none=>rfl
      | some e=>cases hs
     subst hbn;rw[okB_none,Bool.true_and]at hs;obtain⟨acc,cs,hX1,hcq,hcl,hV⟩:=hN rfl;have hm1:=hm rfl;obtain⟨m',rfl⟩:∃m',m=m'+1:=⟨m-1,by omega⟩;have hVl:=hV.len;have hql:cq.length=acc.length:=by rw[hcq,List.length_map,hVl]
     obtain⟨ca,cc,hcv⟩:=hO1.slice;have d0:w9.cell? ⟨ob,0,none⟩=some (.slice ca cq.length cc):=by rw[←hcv];exact F9.cell rfl
     push_cast -dsimp;refine wpL_blockW (wpL_seqV ?_);push_cast -dsimp[d0];refine⟨fun h20=>?_,fun h20=>?_⟩
     ·refine callK_of (rfails_c P9 4 (by decide)) ?_;rintro _ wa ⟨rfl,Pa,ka⟩;push_cast -dsimp;refine⟨_,l1,cv,cq,⟨Pa,F9.kept ka (by omega),O9.keptX ka (fun g hg h=>by have:=(O9.block g hg).1;omega),fun h=>(by cases h),fun e h=>?_⟩,k9.trans ka (fun i _ h=>.inl h)⟩;cases h;exact hX1.trans (clsX_many hs (by omega))
     ·have h20:acc.length≠20:=by omega
      have hX2:=hX1.trans (clsX_step hs h20);obtain⟨t1,r1,el1⟩:=P9.cons;have hhd:Cae.hd l1=t1:=by rw[el1];rfl
      have P9':=P9;rw[el1]at P9';obtain⟨b,o,c,hBp,hc,hne,c0,c1,c2,c3⟩:=P9'.hd;have cb:w9.cell? ⟨rb,0,none⟩=some (.slice (some ⟨b,o,none⟩) (r1.length+1) c):=hBp.cell rfl;have hcls:classP l1=Cae.pb (mustP [99,108,97,115,115]) (fun _=>Cae.pb nameP fun n=>Cae.pb (mustP [61]) fun _=>Cae.pb (kindP 9) fun k=>Cae.pb (mustP [59]) fun _=>pr ⟨n,t1.pos,k⟩) l1:=by
       unfold classP;rw[pb_of (p:=peek) (x:=Cae.hd l1) (l1:=l1) rfl,hhd]
      refine wpL_seqV ?_;push_cast -dsimp[cb,c2];refine⟨by omega,?_⟩;refine allocK (z:=[str [],.int .i64 0,.pointer none]) (by kernel_rfl) ?_;intro wa hwa;have za:=hwa.size;have hgc:∃kb,kb=w9.heap.size:=⟨_,rfl⟩;obtain⟨kb,hkb⟩:=hgc;have Ca:Blk wa kb 74 [str [],.int .i64 0,.pointer none]:=by rw[hkb];exact hwa.blk
      rw[←hkb];push_cast -dsimp;refine storeAgg (xt:=74) (n:=3) (by kernel_rfl) Ca rfl (by decide) (by simp;exact⟨rfl,rfl,rfl⟩) ?_;intro wb hwb;have Cb:Blk wb kb 74 [str [],.int .i64 t1.pos,.pointer none]:=hwb.blk;have zb:=hwb.size;have k9b:Kept (fun i=>i=rb) w9 wb:=(Kept.new (X:=fun i=>i=rb) hwa).trans hwb.kept (fun i h1 h2=>by omega);have Pb:RS rb (rb+1) wb l1 none:=(P9.below hwa.below).keptB hwb.kept (fun i h=>by omega);push_cast -dsimp;refine wpL_seqV ?_;push_cast -dsimp;refine callK_of (rmustX [99,108,97,115,115] Pb (fun _=>hcls) (fun e h=>by cases h)) ?_;rintro _ wc ⟨rfl,kc,bad2,l2,Pc,hn2,he2⟩;have Cc:=Cb.kept kc (by omega);have zc:=kc.size;push_cast -dsimp;refine wpL_seqV ?_;push_cast -dsimp;refine callK_of (rnameX Pc hn2 he2) ?_;rintro _ wd ⟨nm,rfl,kd,bad3,l3,Pd,hn3,he3⟩;have Cd:=Cc.kept kd (by omega);have zd:=kd.size;push_cast -dsimp;refine storeK_of Cd (by simp) rfl ?_;intro we hwe;have Ce:Blk we kb 74 [str nm,.int .i64 t1.pos,.pointer none]:=hwe.blk;have Pe:=Pd.keptB hwe.kept (fun i h=>by omega);have ze:=hwe.size;push_cast -dsimp;refine wpL_seqV ?_;push_cast -dsimp;refine callK_of (rmustX [61] Pe hn3 he3) ?_;rintro _ wf ⟨rfl,kf,bad4,l4,Pf,hn4,he4⟩;have Cf:=Ce.kept kf (by omega);have zf:=kf.size;have k9f:Kept (fun i=>i=rb) w9 wf:=(((k9b.trans kc (fun i _ h=>h)).trans kd (fun i _ h=>h)).trans hwe.kept (fun i h1 h2=>by omega)).trans kf (fun i _ h=>h);push_cast -dsimp
      refine wpL_seqC [48,49,50,51,52] (fun z wx=>∃bad5 l5 u,RS rb (rb+1) wx l5 bad5∧Blk wx kb 74 [str nm,.int .i64 t1.pos,.pointer u]∧Kept (fun i=>i=rb∨i=kb) wf wx∧(bad5=none→∃kd ub,u=atP ub∧KindV (fun i=>i<wf.heap.size) wx (ptrP ub) kd∧classP l1=Cae.pb (mustP [59]) (fun _=>pr ⟨nm,t1.pos,kd⟩) l5)∧∀e,bad5=some e→classP l1=.error e) ?_ ?_
      ·push_cast -dsimp;refine callK_of (rok_c Pf) ?_;rintro _ wg ⟨rfl,bg⟩;have Pg:=Pf.below bg;have Cg:=Cf.below bg Cf.lt;have zg:=bg.size;have kg:Kept (fun i=>i=rb∨i=kb) wf wg:=Kept.of_below bg (fun i h1 h2=>by have:=Pf.le;omega);cases bad4 with
       | some e =>
        push_cast -dsimp;exact⟨some e,l4,none,Pg,Cg,kg,fun h=>(by cases h),he4⟩
       | none =>
        push_cast -dsimp;refine callK_of (rkindX Pg hn4 he4) ?_;rintro _ wh ⟨u,rfl,kh,bad5,l5,Ph,hn5,he5⟩;have Ch:=Cg.kept kh (by omega);push_cast -dsimp;refine storeK_of Ch (by simp) rfl ?_;intro wi hwi;have Ci:Blk wi kb 74 [str nm,.int .i64 t1.pos,.pointer u]:=hwi.blk;have zh:=kh.size;push_cast -dsimp;refine⟨bad5,l5,u,Ph.keptB hwi.kept (fun i h=>by omega),Ci,(kg.trans kh (fun i _ h=>.inl h)).trans hwi.kept (fun i _ h=>.inr h),fun h=>?_,he5⟩;obtain⟨kd,ub,e,hV,hX⟩:=hn5 h;exact⟨kd,ub,e,hV.mono hwi.kept (fun i h=>by omega) (fun i h=>by omega),hX⟩
      ·rintro z2 wg ⟨bad5,l5,u,Pg,Cg,kg,hn5,he5⟩;have zg:=kg.size;obtain⟨kdd,hn5⟩:=pickN (.ref 0 []) hn5;refine wpL_seqV ?_;push_cast -dsimp;refine callK_of (rmustX [59] Pg (fun h=>by obtain⟨_,_,_,h⟩:=hn5 h;exact h) he5) ?_;rintro _ wh ⟨rfl,kh,bad6,l6,Ph,hn6,he6⟩;have Ch:=Cg.kept kh (by omega);have zh:=kh.size;have kw:Kept (fun i=>i=rb) w' wh:=(((Kept.of_below b9 (X:=fun i=>i=rb) (fun i h1 h2=>by omega)).trans k9f (fun i _ h=>h)).trans kg (fun i h1 h2=>by omega)).trans kh (fun i _ h=>h);have Fh:=hF.kept kw (by omega);have Oh:=hO1.keptX kw (fun g hg h=>by have:=(hO1.block g hg).1;omega);have hob1:∀g,cv.ownBlock=some g→ob+1≤g∧g<w'.heap.size:=fun g hg=>hO1.block g hg;have hVh:All2 (ClsR (fun b=>(b<ob+1∨cv.ownBlock=some b)∨w'.heap.size≤b) wh) cs acc:=hV.imp fun a c h=>h.top.mono kw (fun i h=>by omega) (fun i h=>h);have dh:wh.cell? ⟨ob,0,none⟩=some (.slice ca cq.length cc):=by rw[←hcv];exact Fh.cell rfl
       have dl:cellsAt wh ⟨kb,0,none⟩ 0 3=some [str nm,.int .i64 t1.pos,.pointer u]:=Ch.cellsAt;push_cast -dsimp;refine wpL_of ?_;push_cast -dsimp[dh,dl];refine rowK elI_22 rfl rfl (by omega) ?_;intro wi hwi;have Fi:=Fh.below hwi.below Fh.lt;have Oi:=Oh.new hwi;rw[hcv]at Oi;have Pi:=Ph.below hwi.below;have zi:=hwi.size;push_cast -dsimp;refine appendK2 (base:=ob+1) [(nm,t1.pos,u)] (enc:=encCq) elI_22 Oi (by rfl) (fun j y hy=>by simpa[encCq] using hwi.cell hy) encCq_one (by simp only[List.length_cons,List.length_nil];omega) (by omega) ?_;intro cv2 wj hOj hgj hne2;rw[←hcv]at hgj hne2;have kj:Kept (fun j=>cv.ownBlock=some j) wi wj:=Kept.grown hgj (fun _ h=>h);have Fj:=Fi.kept kj (fun h=>by have:=hob1 _ h;omega);have Pj:=Pi.keptB kj (fun i h=>by have:=hob1 _ h;omega);have zj:=kj.size;obtain⟨a5,c5,rfl⟩:=hOj.slice;push_cast -dsimp;refine storeK_of Fj (by simp) rfl ?_;intro wk hwk;have Fk:Blk wk ob 25 [.slice a5 (cq++[(nm,t1.pos,u)]).length c5,.slice none 0 0,.bool true]:=hwk.blk;have Ok':=hOj.keptX hwk.kept (fun g hg h=>by have:=(hOj.block g hg).1;omega);have Pk:=Pj.keptB hwk.kept (fun i h=>by omega);have kY:Kept (fun i=>i=ob∨cv.ownBlock=some i) wh wk:=((Kept.new (X:=fun i=>i=ob∨cv.ownBlock=some i) hwi).trans kj (fun i _ h=>.inr h)).trans hwk.kept (fun i _ h=>.inl h);have kk:Kept (fun i=>i=rb∨i=ob) w8 wk:=(hk.trans kw (fun i _ h=>.inl h)).trans kY (fun i h1 h2=>by
        rcases h2 with h2|h2
        ·exact .inr h2
        ·have:=hob1 _ h2;omega)
       have hXk:∀i,(i<ob+1∨(Value.slice a5 (cq++[(nm,t1.pos,u)]).length c5).ownBlock=some i)→(i<ob+1∨cv.ownBlock=some i)∨wh.heap.size≤i:=fun i h=>by
        rcases h with h|h
        ·exact .inl (.inl h)
        ·rcases hne2 i h with h|h
         ·exact .inl (.inr h)
         ·exact .inr (by omega)
       push_cast -dsimp;refine⟨⟨bad6,l6,_,cq++[(nm,t1.pos,u)],m',⟨Pk,Fk,Ok',fun h=>?_,fun e h=>?_⟩,fun h=>?_,kk⟩,?_⟩
       ·have hok:classP l1=.ok (⟨nm,t1.pos,kdd⟩,l6):=hn6 h;have hb5:bad5=none:=by
         cases hb5:bad5 with
         | none=>rfl
         | some e=>rw[he5 e hb5]at hok;cases hok
        obtain⟨ub,rfl,hVu,_⟩:=hn5 hb5;have hVu2:=(hVu.mono kh (X':=fun i=>i<wf.heap.size) (fun i h=>by omega) (fun i h=>h)).top;refine⟨acc++[⟨nm,t1.pos,kdd⟩],cs++[(nm,t1.pos,ub)],hX2.trans (pb_of hok),by rw[hcq,List.map_append];rfl,by rw[List.length_append,List.length_singleton];omega,(hVh.imp fun a c h=>h.mono kY (fun i h=>?_) (fun i h=>?_)).snoc ⟨rfl,rfl,hVu2.mono kY (fun i h=>?_) (fun i h=>?_)⟩⟩
        ·rcases h with h|h
         ·exact .inl (.inl (by omega))
         ·exact .inl (.inr h)
        ·rcases hXk i h with h|h
         ·exact .inl h
         ·exact .inr (by omega)
        ·rcases h with h|h
         ·exact .inl (by omega)
         ·have:=hob1 _ h;exact .inl (by omega)
        ·rcases hXk i h with h|h
         ·rcases h with h|h
          ·exact .inl (by omega)
          ·have:=hob1 _ h;exact .inl (by omega)
         ·exact .inr h
       ·exact hX2.trans (pbe (he6 e h))
       ·have:=sh_class _ _ _ (hn6 h);omega
       ·have h0:=hP.mu;cases hb6:bad6 with
        | none =>
         subst hb6
         have:=Pk.mu
         have:=sh_class _ _ _ (hn6 rfl);omega
        | some e =>
         subst hb6
         have:=Pk.mu0;omega
  ·rintro z V0 ⟨bad0,lc,cv,cq,⟨hP0,hF0,hOc,hN0,hB0⟩,hk0⟩;obtain⟨acc,hN0⟩:=pickN [] hN0;obtain⟨ca,cc,hcv⟩:=hOc.slice;have hz0:=hk0.size;have hofl:=hF0.lt;have hle0:=hP0.le;push_cast -dsimp;refine wpL_seqW (wpL_blockW ?_);refine wpL_cutB [9,61,62,63,64,65,66,67,68,69,70,71,72,73,74,75,76,77,78,79,80,81,82,83,84,85,86,87,88,89,90,91,92,93,94,95,96,97,98,99,100,101,102,103,104,105,106,107,108] (fun z w'=>∃bad l1 rv rq,RulI X rb (rb+1) ob cv (bad0=none) V0.heap.size w' rv rq bad l1 (fun acc2=>Cae.pb elseP (fun b=>pr ⟨acc,acc2,b⟩) l1)∧Kept (fun i=>i=rb∨i=ob) V0 w') ?_ ?_
   ·refine wpL_loopW [9,61,62,63,64,65,66,67,68,69,70,71,72,73,74,75,76,77,78,79,80,81,82,83,84,85,86,87,88,89,90,91,92,93,94,95,96,97,98,99,100,101,102,103,104,105,106,107,108] (fun z w'=>∃bad l1 rv rq m,RulI X rb (rb+1) ob cv (bad0=none) V0.heap.size w' rv rq bad l1 (fun acc2=>Cae.pb (ruleLoop m acc2) (fun rs=>Cae.pb elseP fun b=>pr ⟨acc,rs,b⟩) l1)∧(bad=none→l1.length<m)∧Kept (fun i=>i=rb∨i=ob) V0 w') (fun z w'=>muR rb w') ?_ ?_
    ·refine⟨bad0,lc,_,[],1000,⟨hP0,hF0,Vc.Own.nil (enc:=encRq) _ _ (fun _=>rfl) _,fun h=>⟨h,[],[],?_,rfl,by simp,.nil⟩,hB0⟩,fun _=>by have:=hP0.tl.len;omega,Kept.refl _ _⟩;obtain⟨cs,hX1,_⟩:=hN0 h;exact hX1
    ·rintro z w' ⟨bad,l1,rv,rq,m,⟨hP,hF,hO1,hN,hBd⟩,hm,hk⟩;have hzk:=hk.size;have hle1:=hP.le;refine wpL_seqW (wpL_seqC [61,62,63,64,65,66] (fun z wx=>z 66=.bool (okB bad && ruleStart l1)∧Below w'.heap.size w' wx) ?_ ?_)
     ·have hrs:(okB bad && ruleStart l1)=((okB bad && seeP [98,114,101,97,107] l1) || (okB bad && seeP [107,101,101,112] l1)):=by unfold ruleStart;cases okB bad<;>rfl
      push_cast -dsimp;refine callK_of (rsee_c hP [98,114,101,97,107]) ?_;rintro _ wa ⟨rfl,ba⟩;rw[hrs];cases hs1:(okB bad && seeP [98,114,101,97,107] l1) with
      | true =>
       push_cast -dsimp;exact⟨by rw[Bool.true_or],ba⟩
      | false =>
       push_cast -dsimp;refine callK_of (rsee_c (hP.below ba) [107,101,101,112]) ?_;rintro _ wb ⟨rfl,bb⟩;push_cast -dsimp;exact ba.trans (bb.mono ba.size)
     rintro z3 w9 ⟨h66,b9⟩;have P9:=hP.below b9;have F9:=hF.below b9 hF.lt;have O9:=hO1.below b9;have k9:Kept (fun i=>i=rb∨i=ob) V0 w9:=hk.trans (Kept.of_below b9 (X:=fun i=>i=rb) (fun i h1 h2=>by omega)) (fun i _ h=>.inl h);have z9:=b9.size;refine wpL_of ?_;cases hs:(okB bad && ruleStart l1) with
     | false =>
      rw[hs]at h66;push_cast -dsimp[h66];refine⟨bad,l1,rv,rq,⟨P9,F9,O9,fun h=>?_,hBd⟩,k9⟩;subst h;rw[okB_none,Bool.true_and]at hs;obtain⟨hb0,acc2,rs,hX1,hcq,hcl,hV⟩:=hN rfl;exact⟨hb0,acc2,rs,hX1.trans (rulX_end (hm rfl) hs),hcq,hcl,hV.imp fun a c h=>⟨h.1,h.2.1,h.2.2.1.below b9,h.2.2.2.below b9⟩⟩
     | true =>
      rw[hs]at h66;have hbn:bad=none:=by
       cases bad with
       | none=>rfl
       | some e=>cases hs
      subst hbn;rw[okB_none,Bool.true_and]at hs;obtain⟨hb0,acc2,rs,hX1,hcq,hcl,hV⟩:=hN rfl;have hm1:=hm rfl;obtain⟨m',rfl⟩:∃m',m=m'+1:=⟨m-1,by omega⟩;have hVl:=hV.len;have hql:rq.length=acc2.length:=by rw[hcq,List.length_map,hVl]
      obtain⟨ra,rc,hrv⟩:=hO1.slice;have d0:w9.cell? ⟨ob,1,none⟩=some (.slice ra rq.length rc):=by rw[←hrv];exact F9.cell rfl
      push_cast -dsimp[h66];refine wpL_blockW (wpL_seqV ?_);push_cast -dsimp[d0];refine⟨fun h20=>?_,fun h20=>?_⟩
      ·refine callK_of (rfails_c P9 4 (by decide)) ?_;rintro _ wa ⟨rfl,Pa,ka⟩;push_cast -dsimp;refine⟨_,l1,rv,rq,⟨Pa,F9.kept ka (by omega),O9.keptX ka (fun g hg h=>by have:=(O9.block g hg).1;omega),fun h=>(by cases h),fun e h=>?_⟩,k9.trans ka (fun i _ h=>.inl h)⟩;cases h;exact hX1.trans (rulX_many hs (by omega))
      ·have h20:acc2.length≠20:=by omega
       have hX2:=hX1.trans (rulX_step hs h20);obtain⟨t1,r1,el1⟩:=P9.cons;have hhd:Cae.hd l1=t1:=by rw[el1];rfl
       have hsy:=says_of el1 hs;have hgb:∃isB,isB=seeP [98,114,101,97,107] l1:=⟨_,rfl⟩;obtain⟨isB,hisB⟩:=hgb;rw[←hisB]at hsy;have hrul:ruleP l1=Cae.pb (patP 9) (fun x=>Cae.pb (mustP [58]) fun _=>Cae.pb (patP 9) fun y=>Cae.pb (mustP [59]) fun _=>pr ⟨t1.pos,isB,x,y⟩) r1:=by
        unfold ruleP;rw[pb_of (p:=peek) (x:=Cae.hd l1) (l1:=l1) rfl,hhd,pb_of hsy.1]
       have P9':=P9;rw[el1]at P9';obtain⟨b,o,c,hBp,hc,hne,c0,c1,c2,c3⟩:=P9'.hd;refine wpL_seqV ?_;push_cast -dsimp;have cla:∀{x y:World},Below x.heap.size x y→(Blk x rb 68 (.slice (some ⟨b,o,none⟩) (r1.length+1) c::badV none)∧x.cell? ⟨b,o+2,none⟩=some (.int .i64 t1.pos))→(Blk y rb 68 (.slice (some ⟨b,o,none⟩) (r1.length+1) c::badV none)∧y.cell? ⟨b,o+2,none⟩=some (.int .i64 t1.pos)):=fun hb h=>⟨h.1.below hb h.1.lt,(hb.cell (World.block_lt_of_cell? _ _ h.2)).trans h.2⟩;refine wpL_cut [9,73,74,75,76,77,78,79,80,81,82] (fun z wx=>∃kb,z 9=.pointer (some ⟨kb,0,none⟩)∧w9.heap.size≤kb∧Blk wx kb 60 [.int .i64 t1.pos,.bool isB,.pointer none,.pointer none]∧Below w9.heap.size w9 wx) ?_ ?_
       ·refine wpL_tree (.one 0 (.one 1 (.one 2 (.one 3 (.one 4 (.one 5 (.one 6 (.one 7 (.two 8 (.one 9 (.one 10 (.one 11 .done))) 10 (.one 8 (.one 9 (.one 11 .done)))))))))))) (fun w''=>Blk w'' rb 68 (.slice (some ⟨b,o,none⟩) (r1.length+1) c::badV none)∧w''.cell? ⟨b,o+2,none⟩=some (.int .i64 t1.pos)) mixed (by kernel_rfl) ⟨hBp.drew,c2⟩ ?_;have gb:∀w'':World,(Blk w'' rb 68 (.slice (some ⟨b,o,none⟩) (r1.length+1) c::badV none)∧w''.cell? ⟨b,o+2,none⟩=some (.int .i64 t1.pos))→w''.cell? ⟨rb,0,none⟩=some (.slice (some ⟨b,o,none⟩) (r1.length+1) c):=fun w'' h=>h.1.cell rfl;have db:w9.drew.cell? ⟨rb,0,none⟩=some (.slice (some ⟨b,o,none⟩) (r1.length+1) c):=gb _ ⟨hBp.drew,c2⟩;have dc:w9.drew.cell? ⟨b,o+2,none⟩=some (.int .i64 t1.pos):=c2;have Pd:=P9.below (below_drewR w9);have zd:w9.drew.heap.size=w9.heap.size:=rfl;have hbl:b<w9.heap.size:=World.block_lt_of_cell? _ _ c2;push_cast -dsimp[db,dc,Nat.zero_mul,Nat.add_zero];refine⟨fun w'' h=>by rw[gb w'' h];exact rfl,by omega,fun w'' h=>by rw[h.2];exact rfl,?_,?_⟩
        ·refine callK_of (rsee_c Pd [98,114,101,97,107]) ?_;rintro _ wa ⟨rfl,ba⟩;rw[okB_none,Bool.true_and,←hisB];have Ka:=cla ba ⟨hBp.drew,c2⟩;have za:=ba.size;refine⟨Ka,?_⟩;push_cast -dsimp;refine allocK (z:=[.int .i64 0,.bool false,.pointer none,.pointer none]) (by kernel_rfl) ?_;intro wb hwb;have zb:=hwb.size;have Kb:=cla hwb.below Ka;refine⟨Kb,?_⟩;push_cast -dsimp;refine storeAgg (xt:=60) (n:=4) (by kernel_rfl) hwb.blk rfl (by decide) (by simp;exact⟨rfl,rfl,rfl⟩) ?_;intro wc hwc;have Kc:=hwc.kept;refine⟨⟨Kb.1.kept Kc (by omega),Kc.cell Kb.2 (by show ¬b=wa.heap.size;omega)⟩,?_⟩
         push_cast -dsimp;exact⟨_,rfl,by omega,hwc.blk,(((below_drewR w9).trans (ba.mono (by omega))).trans (hwb.below.mono (by omega))).trans (Kc.below (B:=w9.heap.size) (by omega) (fun i h=>by omega))⟩
        ·refine allocK (z:=[.int .i64 0,.bool false,.pointer none,.pointer none]) (by kernel_rfl) ?_;intro wb hwb;have zb:=hwb.size;have Kb:=cla hwb.below ⟨hBp.drew,c2⟩;refine⟨Kb,?_⟩;push_cast -dsimp;refine callK_of (rsee_c (Pd.below hwb.below) [98,114,101,97,107]) ?_;rintro _ wa ⟨rfl,ba⟩;rw[okB_none,Bool.true_and,←hisB];have Ka:=cla ba Kb;have za:=ba.size;refine⟨Ka,?_⟩;push_cast -dsimp;refine storeAgg (xt:=60) (n:=4) (by kernel_rfl) (hwb.blk.below ba (by omega)) rfl (by decide) (by simp;exact⟨rfl,rfl,rfl⟩) ?_;intro wc hwc;have Kc:=hwc.kept;refine⟨⟨Ka.1.kept Kc (by omega),Kc.cell Ka.2 (by show ¬b=w9.drew.heap.size;omega)⟩,?_⟩
         push_cast -dsimp;exact⟨_,rfl,by omega,hwc.blk,(((below_drewR w9).trans (hwb.below.mono (by omega))).trans (ba.mono (by omega))).trans (Kc.below (B:=w9.heap.size) (by omega) (fun i h=>by omega))⟩
       rintro z4 wc ⟨kb,h9,hkb,Cc,bc⟩;have Bc:Blk wc rb 68 (.slice (some ⟨b,o,none⟩) (r1.length+1) c::badV none):=hBp.below bc hBp.lt;have Pc:=P9.below bc;have k9c:Kept (fun i=>i=rb) w9 wc:=Kept.of_below bc (fun i h1 h2=>by omega);have zc:=bc.size;have cc:wc.cell? ⟨rb,0,none⟩=some (.slice (some ⟨b,o,none⟩) (r1.length+1) c):=Bc.cell rfl;have hcl2:=Cc.lt;push_cast -dsimp[h9];refine wpL_seqV ?_;push_cast -dsimp[cc,slice1];refine⟨by omega,?_⟩;refine storeK_of Bc (by simp) rfl ?_;intro wd hwd;rw[el1]at Pc;have Pd2:=Pc.pop Bc hsy.2 hwd;have Cd:=Cc.kept hwd.kept (by omega);have zd2:=hwd.size;have k9d:=k9c.trans hwd.kept (fun i _ h=>h);push_cast -dsimp;refine wpL_seqV ?_;push_cast -dsimp;refine callK_of (rpatX Pd2 (fun _=>hrul) (fun e h=>by cases h)) ?_;rintro _ we ⟨u1,rfl,ke,bad2,l2,Pe,hn2,he2⟩;obtain⟨x1,hn2⟩:=pickN PatP.any hn2;have Ce:=Cd.kept ke (by omega);have ze:=ke.size;push_cast -dsimp;refine storeK_of Ce (by simp) rfl ?_;intro wf hwf;have Cf:Blk wf kb 60 [.int .i64 t1.pos,.bool isB,.pointer u1,.pointer none]:=hwf.blk;have Pf:=Pe.keptB hwf.kept (fun i h=>by omega);have zf:=hwf.size;push_cast -dsimp;refine wpL_seqV ?_;push_cast -dsimp;refine callK_of (rmustX [58] Pf (fun h=>by obtain⟨_,_,_,h⟩:=hn2 h;exact h) he2) ?_;rintro _ wg ⟨rfl,kg,bad3,l3,Pg,hn3,he3⟩;have Cg:=Cf.kept kg (by omega);have zg:=kg.size;have k9g:Kept (fun i=>i=rb) w9 wg:=((k9d.trans ke (fun i _ h=>h)).trans hwf.kept (fun i h1 h2=>by omega)).trans kg (fun i _ h=>h);push_cast -dsimp
       refine wpL_seqC [96,97,98,99,100] (fun z wx=>∃bad5 l5 u,RS rb (rb+1) wx l5 bad5∧Blk wx kb 60 [.int .i64 t1.pos,.bool isB,.pointer u1,.pointer u]∧Kept (fun i=>i=rb∨i=kb) wg wx∧(bad5=none→∃x ub,u=atP ub∧PatV (fun i=>i<wg.heap.size) wx (ptrP ub) x∧ruleP l1=Cae.pb (mustP [59]) (fun _=>pr ⟨t1.pos,isB,x1,x⟩) l5)∧∀e,bad5=some e→ruleP l1=.error e) ?_ ?_
       ·push_cast -dsimp;refine callK_of (rok_c Pg) ?_;rintro _ wh ⟨rfl,bh⟩;have Ph:=Pg.below bh;have Ch:=Cg.below bh Cg.lt;have zh:=bh.size;have kh:Kept (fun i=>i=rb∨i=kb) wg wh:=Kept.of_below bh (fun i h1 h2=>by have:=Pg.le;omega);cases bad3 with
        | some e =>
         push_cast -dsimp;exact⟨some e,l3,none,Ph,Ch,kh,fun h=>(by cases h),he3⟩
        | none =>
         push_cast -dsimp;refine callK_of (rpatX Ph hn3 he3) ?_;rintro _ wi ⟨u,rfl,ki,bad5,l5,Pi,hn5,he5⟩;have Ci:=Ch.kept ki (by omega);have zi:=ki.size;push_cast -dsimp;refine storeK_of Ci (by simp) rfl ?_;intro wj hwj;have Cj:Blk wj kb 60 [.int .i64 t1.pos,.bool isB,.pointer u1,.pointer u]:=hwj.blk;push_cast -dsimp;refine⟨bad5,l5,u,Pi.keptB hwj.kept (fun i h=>by omega),Cj,(kh.trans ki (fun i _ h=>.inl h)).trans hwj.kept (fun i _ h=>.inr h),fun h=>?_,he5⟩;obtain⟨x,ub,e,hV,hX⟩:=hn5 h;exact⟨x,ub,e,hV.mono hwj.kept (fun i h=>by omega) (fun i h=>by omega),hX⟩
       ·rintro z2 wh ⟨bad5,l5,u,Ph,Ch,kh,hn5,he5⟩;have zh:=kh.size;obtain⟨x2,hn5⟩:=pickN PatP.any hn5;refine wpL_seqV ?_;push_cast -dsimp;refine callK_of (rmustX [59] Ph (fun h=>by obtain⟨_,_,_,h⟩:=hn5 h;exact h) he5) ?_;rintro _ wi ⟨rfl,ki,bad6,l6,Pi,hn6,he6⟩;have Ci:=Ch.kept ki (by omega);have zi:=ki.size;have kw:Kept (fun i=>i=rb) w' wi:=(((Kept.of_below b9 (X:=fun i=>i=rb) (fun i h1 h2=>by omega)).trans k9g (fun i _ h=>h)).trans kh (fun i h1 h2=>by omega)).trans ki (fun i _ h=>h);have Fi:=hF.kept kw (by omega);have Oi:=hO1.keptX kw (fun g hg h=>by have:=(hO1.block g hg).1;omega);have hob1:∀g,rv.ownBlock=some g→V0.heap.size≤g∧g<w'.heap.size:=fun g hg=>hO1.block g hg;have hVh:All2 (RulR (fun b=>(b<V0.heap.size∨rv.ownBlock=some b)∨w'.heap.size≤b) wi) rs acc2:=hV.imp fun a c h=>h.top.mono kw (fun i h=>by omega) (fun i h=>h);have dh:wi.cell? ⟨ob,1,none⟩=some (.slice ra rq.length rc):=by rw[←hrv];exact Fi.cell rfl
        have dl:cellsAt wi ⟨kb,0,none⟩ 0 4=some [.int .i64 t1.pos,.bool isB,.pointer u1,.pointer u]:=Ci.cellsAt;push_cast -dsimp;refine wpL_of ?_;push_cast -dsimp[dh,dl];refine rowK elI_23 rfl rfl (by omega) ?_;intro wj hwj;have Fj:=Fi.below hwj.below Fi.lt;have Oj:=Oi.new hwj;rw[hrv]at Oj;have Pj:=Pi.below hwj.below;have zj:=hwj.size;push_cast -dsimp;refine appendK2 (base:=V0.heap.size) [(t1.pos,isB,u1,u)] (enc:=encRq) elI_23 Oj (by rfl) (fun j y hy=>by simpa[encRq] using hwj.cell hy) encRq_one (by simp only[List.length_cons,List.length_nil];omega) (by omega) ?_;intro rv2 wk hOk hgk hne2;rw[←hrv]at hgk hne2;have kj:Kept (fun j=>rv.ownBlock=some j) wj wk:=Kept.grown hgk (fun _ h=>h);have Fk:=Fj.kept kj (fun h=>by have:=hob1 _ h;omega);have Pk:=Pj.keptB kj (fun i h=>by have:=hob1 _ h;omega);have zk:=kj.size;obtain⟨a5,c5,rfl⟩:=hOk.slice;push_cast -dsimp;refine storeK_of Fk (by simp) rfl ?_;intro wl hwl;have Fl:Blk wl ob 25 [cv,.slice a5 (rq++[(t1.pos,isB,u1,u)]).length c5,.bool true]:=hwl.blk;have Ol:=hOk.keptX hwl.kept (fun g hg h=>by have:=(hOk.block g hg).1;omega);have Pl:=Pk.keptB hwl.kept (fun i h=>by omega);have kY:Kept (fun i=>i=ob∨rv.ownBlock=some i) wi wl:=((Kept.new (X:=fun i=>i=ob∨rv.ownBlock=some i) hwj).trans kj (fun i _ h=>.inr h)).trans hwl.kept (fun i _ h=>.inl h);have kk:Kept (fun i=>i=rb∨i=ob) V0 wl:=(hk.trans kw (fun i _ h=>.inl h)).trans kY (fun i h1 h2=>by
         rcases h2 with h2|h2
         ·exact .inr h2
         ·have:=hob1 _ h2;omega)
        have hXk:∀i,(i<V0.heap.size∨(Value.slice a5 (rq++[(t1.pos,isB,u1,u)]).length c5).ownBlock=some i)→(i<V0.heap.size∨rv.ownBlock=some i)∨wi.heap.size≤i:=fun i h=>by
         rcases h with h|h
         ·exact .inl (.inl h)
         ·rcases hne2 i h with h|h
          ·exact .inl (.inr h)
          ·exact .inr (by omega)
        push_cast -dsimp;refine⟨⟨bad6,l6,_,rq++[(t1.pos,isB,u1,u)],m',⟨Pl,Fl,Ol,fun h=>?_,fun e h=>?_⟩,fun h=>?_,kk⟩,?_⟩
        ·have hok:ruleP l1=.ok (⟨t1.pos,isB,x1,x2⟩,l6):=hn6 h;have hb5:bad5=none:=by
          cases hb5:bad5 with
          | none=>rfl
          | some e=>rw[he5 e hb5]at hok;cases hok
         have hb2:bad2=none:=by
          cases hb2:bad2 with
          | none=>rfl
          | some e=>rw[he2 e hb2]at hok;cases hok
         obtain⟨ub,rfl,hVu,_⟩:=hn2 hb2;obtain⟨vb,rfl,hVv,_⟩:=hn5 hb5;have hVu2:PatV (fun i=>i<wd.heap.size∨we.heap.size≤i) wi (ptrP ub) x1:=(((hVu.top.mono hwf.kept (X':=fun i=>i<wd.heap.size∨we.heap.size≤i) (fun i h=>by omega) (fun i h=>h)).mono kg (X':=fun i=>i<wd.heap.size∨we.heap.size≤i) (fun i h=>by omega) (fun i h=>h)).mono kh (X':=fun i=>i<wd.heap.size∨we.heap.size≤i) (fun i h=>by omega) (fun i h=>h)).mono ki (fun i h=>by omega) (fun i h=>h);have hVv2:=(hVv.mono ki (X':=fun i=>i<wg.heap.size) (fun i h=>by omega) (fun i h=>h)).top;refine⟨hb0,acc2++[⟨t1.pos,isB,x1,x2⟩],rs++[(t1.pos,isB,ub,vb)],hX2.trans (pb_of hok),by rw[hcq,List.map_append];rfl,by rw[List.length_append,List.length_singleton];omega,(hVh.imp fun a c h=>h.mono kY (fun i h=>?_) (fun i h=>?_)).snoc ⟨rfl,rfl,hVu2.mono kY (fun i h=>?_) (fun i h=>?_),hVv2.mono kY (fun i h=>?_) (fun i h=>?_)⟩⟩
         ·rcases h with h|h
          ·exact .inl (.inl (by omega))
          ·exact .inl (.inr h)
         ·rcases hXk i h with h|h
          ·exact .inl h
          ·exact .inr (by omega)
         ·rcases h with h|h
          ·exact .inl (by omega)
          ·have:=hob1 _ h;exact .inl (by omega)
         ·rcases hXk i h with h|h
          ·rcases h with h|h
           ·exact .inl (by omega)
           ·have:=hob1 _ h;exact .inl (by omega)
          ·exact .inr (by omega)
         ·rcases h with h|h
          ·exact .inl (by omega)
          ·have:=hob1 _ h;exact .inl (by omega)
         ·rcases hXk i h with h|h
          ·rcases h with h|h
           ·exact .inl (by omega)
           ·have:=hob1 _ h;exact .inl (by omega)
          ·exact .inr h
        ·exact hX2.trans (pbe (he6 e h))
        ·have:=sh_rule _ _ _ (hn6 h);omega
        ·have h0:=hP.mu;cases hb6:bad6 with
         | none =>
          subst hb6
          have:=Pl.mu
          have:=sh_rule _ _ _ (hn6 rfl);omega
         | some e =>
          subst hb6
          have:=Pl.mu0;omega
   ·rintro z V1 ⟨bad,l1,rv,rq,⟨hP,hF,hO1,hN,hBd⟩,hk⟩;have hzk:=hk.size;have hle1:=hP.le;have hofl1:=hF.lt;push_cast -dsimp;have hR1:=((R8.kept hk0 (by omega)).kept hk (by omega));have hE1:=((E8.kept hk0 (by omega)).kept hk (by omega));have hb1:=hb8.trans ((hk0.trans hk (fun i _ h=>h)).below (B:=w.heap.size) hb8.size (fun i h=>by omega));obtain⟨acc2,hN⟩:=pickN [] (R:=fun acc2=>bad0=none∧∃rs,X=Cae.pb elseP (fun b=>pr ⟨acc,acc2,b⟩) l1∧rq=rs.map rQ∧rq.length≤20∧All2 (RulR (fun b=>b<V0.heap.size∨rv.ownBlock=some b) V1) rs acc2) (fun h=>by
     obtain⟨h0,a,h⟩:=hN h;exact⟨a,h0,h⟩)
    refine wpL_seqC [109,110,111,112,113,114,115,116,117,118] (fun z wx=>∃bad l2 els,RS rb (rb+1) wx l2 bad∧Blk wx ob 25 [cv,rv,.bool els]∧(bad=none→X=.ok (⟨acc,acc2,els⟩,l2))∧(∀e,bad=some e→X=.error e)∧Kept (fun i=>i=rb∨i=ob) V1 wx) ?_ ?_
    ·refine(fun h=>h) ?_;push_cast -dsimp;refine callK_of (rtake_c hP [101,108,115,101]) ?_;rintro _ wa hT;rcases hT with ⟨rfl,hse,rfl,t3,l3,el3,h53,P3',kt3⟩|⟨hse,rfl,P3',b3'⟩
     ·obtain⟨hb0,rs,hX1,_⟩:=hN rfl;have hpop:popP l1=.ok ((),l3):=by rw[el3];exact popP_cons h53
      have hX3:X=Cae.pb saysP (fun b=>Cae.pb (mustP [59]) fun _=>pr ⟨acc,acc2,b⟩) l3:=by
       have hels:elseP l1=Cae.pb saysP (fun b=>Cae.pb (mustP [59]) fun _=>pr b) l3:=by
        unfold elseP pif;rw[hse,if_pos rfl,pb_of hpop]
       have e2:Cae.pb elseP (fun b=>pr (⟨acc,acc2,b⟩:FileP)) l1=Cae.pb (Cae.pb saysP (fun b=>Cae.pb (mustP [59]) fun _=>pr b)) (fun b=>pr ⟨acc,acc2,b⟩) l3:=by
        unfold Cae.pb at hels ⊢
        rw[hels]
       rw[hX1,e2,pb_as];congr 1;funext b;exact funext fun l=>pb_as _ _ _ l
      have F3':=hF.kept kt3 (by omega);have k3':Kept (fun i=>i=rb∨i=ob) V1 wa:=kt3.weaken (fun i _ h=>.inl h);push_cast -dsimp;refine callK_of (rtake_c P3' [98,114,101,97,107]) ?_;rintro _ wb hT;rcases hT with ⟨_,hsb,rfl,t4,l4,el4,h54,P4',kt4⟩|⟨hsb,rfl,P4',b4'⟩
      ·have hpop4:popP l3=.ok ((),l4):=by rw[el4];exact popP_cons h54
       have hsy:saysP l3=.ok (true,l4):=by
        unfold saysP pif;rw[hsb,if_pos rfl,pb_of hpop4];rfl
       have F4':=F3'.kept kt4 (by omega);push_cast -dsimp;refine callK_of (rmustX [59] P4' (fun _=>hX3.trans (pb_of hsy)) (fun e h=>by cases h)) ?_;rintro _ wc ⟨rfl,kc,bad5,l5,P5,hn5,he5⟩;push_cast -dsimp;exact⟨bad5,l5,true,P5,F4'.kept kc (by omega),hn5,he5,(k3'.trans kt4 (fun i _ h=>.inl h)).trans kc (fun i _ h=>.inl h)⟩
      ·rw[okB_none,Bool.true_and]at hsb;have hX4:X=Cae.pb (mustP [107,101,101,112]) (fun _=>Cae.pb (mustP [59]) fun _=>pr ⟨acc,acc2,false⟩) l3:=by
        have hsy0:saysP l3=Cae.pb (mustP [107,101,101,112]) (fun _=>pr false) l3:=by
         unfold saysP pif;rw[hsb];rfl
        rw[hX3];have e2:Cae.pb saysP (fun b=>Cae.pb (mustP [59]) fun _=>pr (⟨acc,acc2,b⟩:FileP)) l3=Cae.pb (Cae.pb (mustP [107,101,101,112]) (fun _=>pr false)) (fun b=>Cae.pb (mustP [59]) fun _=>pr ⟨acc,acc2,b⟩) l3:=pb_congr hsy0;rw[e2,pb_as];rfl
       have F4':=F3'.below b4' F3'.lt;have k4':Kept (fun i=>i=rb∨i=ob) V1 wb:=k3'.trans (Kept.of_below b4' (X:=fun i=>i=rb∨i=ob) (fun i h1 h2=>by have:=P3'.le;omega)) (fun i _ h=>h);push_cast -dsimp;refine callK_of (rmustX [107,101,101,112] P4' (fun _=>hX4) (fun e h=>by cases h)) ?_;rintro _ wc ⟨rfl,kc,bad5,l5,P5,hn5,he5⟩;have F5:=F4'.kept kc (by omega);push_cast -dsimp;refine storeK_of F5 (by simp) rfl ?_;intro wd hwd;have F6:Blk wd ob 25 [cv,rv,.bool false]:=hwd.blk;push_cast -dsimp;refine callK_of (rmustX [59] (P5.keptB hwd.kept (fun i h=>by omega)) hn5 he5) ?_;rintro _ we ⟨rfl,ke,bad6,l6,P6,hn6,he6⟩;push_cast -dsimp;exact⟨bad6,l6,false,P6,F6.kept ke (by omega),hn6,he6,((k4'.trans kc (fun i _ h=>.inl h)).trans hwd.kept (fun i _ h=>.inr h)).trans ke (fun i _ h=>.inl h)⟩
     ·push_cast -dsimp;refine⟨bad,l1,true,P3',hF.below b3' hF.lt,fun h=>?_,hBd,Kept.of_below b3' (fun i h1 h2=>by omega)⟩;subst h;rw[okB_none,Bool.true_and]at hse;obtain⟨hb0,rs,hX1,_⟩:=hN rfl;have hels:elseP l1=.ok (true,l1):=by
       unfold elseP pif;rw[hse];rfl
      rw[hX1,pb_of hels];rfl
    ·rintro z2 V2 ⟨badx,l2,els,P2,F2,hX2,he2,k2⟩;have hz2:=k2.size;obtain⟨t1,r1,el1⟩:=P2.cons;have P2':=P2;rw[el1]at P2';obtain⟨b,o,c,hBp,hc,hne,c0,c1,c2,c3⟩:=P2'.hd;have cb:V2.cell? ⟨rb,0,none⟩=some (.slice (some ⟨b,o,none⟩) (r1.length+1) c):=hBp.cell rfl;have hik:isKind 5 l2=decide (t1.kind=5):=by
      rw[el1]
      show (t1.kind == 5)=_
      by_cases h:t1.kind=5<;>simp[h]
     have hpE:∀e,X=.error e→parseR s=.error e:=fun e h=>by
      unfold parseR;rw[htok];dsimp only;rw[←hX,h]
     have hpO:X=.ok (⟨acc,acc2,els⟩,l2)→parseR s=if isKind 5 l2 then .ok ⟨acc,acc2,els⟩ else .error (3,(Cae.hd l2).pos):=fun h=>by
      unfold parseR;rw[htok];dsimp only;rw[←hX,h]
     refine wpL_seqC [119,120,121,122,123,124,125,126,127,128] (fun z wx=>∃bad3,RS rb (rb+1) wx l2 bad3∧Kept (fun i=>i=rb) V2 wx∧(bad3=none→parseR s=.ok ⟨acc,acc2,els⟩∧badx=none)∧∀e,bad3=some e→parseR s=.error e) ?_ ?_
     ·refine(fun h=>h) ?_;push_cast -dsimp[cb,c0];refine⟨by omega,fun h5=>?_,fun h5=>?_⟩
      ·refine callK_of (rfails_c P2 3 (by decide)) ?_;rintro _ wa ⟨rfl,Pa,ka⟩;push_cast -dsimp;refine⟨_,Pa,ka,fun h=>(by cases h),fun e h=>?_⟩;cases h;cases hbx:badx with
       | some e0=>exact hpE _ (he2 _ hbx)
       | none =>
        rw[hpO (hX2 hbx),hik,decide_eq_false (fun h=>h5 (by omega))];rfl
      ·refine⟨badx,P2,Kept.refl _ _,fun h=>⟨?_,h⟩,fun e h=>hpE _ (he2 _ h)⟩;rw[hpO (hX2 h),hik,decide_eq_true (by omega)];rfl
     ·rintro z3 V3 ⟨bad3,P3,k3,hok,herr⟩;have hz3:=k3.size;have kV:Kept (fun i=>i=rb∨i=ob) V1 V3:=k2.trans k3 (fun i _ h=>.inl h);refine wpL_of ?_;push_cast -dsimp;refine callK_of (rok_c P3) ?_;rintro _ V4 ⟨rfl,b4⟩;have P4:=P3.below b4;have hz4:=b4.size;have kV4:Kept (fun i=>i=rb∨i=ob) V1 V4:=kV.trans (Kept.of_below b4 (X:=fun i=>i=rb∨i=ob) (fun i h1 h2=>by omega)) (fun i _ h=>h);have R4:=hR1.kept kV4 (by omega);have E4:=hE1.kept kV4 (by omega);have F4:=(F2.kept k3 (by omega)).below b4 (F2.kept k3 (by omega)).lt;have hb4:=hb1.trans (kV4.below (B:=w.heap.size) hb1.size (fun i h=>by omega));obtain⟨vP,BP,_⟩:=P4.st;cases bad3 with
      | some e =>
       obtain⟨en,pos⟩:=e;have gP:∀w'':World,Blk w'' rb 68 (vP::badV (some (en,pos)))→cellsAt w'' ⟨rb,1,none⟩ 0 2=some [.int .i64 (en:Int),.int .i64 (pos:Int)]:=fun w'' h=>blkSome (n:=2) h 1 rfl rfl;have dP:=gP _ BP.drew;push_cast -dsimp;refine wpL_draw (fun w''=>Blk w'' rb 68 (vP::badV (some (en,pos)))) mixed (by kernel_rfl) BP.drew ?_;push_cast -dsimp[dP];refine⟨fun w'' h=>by rw[gP w'' h];exact rfl,?_⟩;refine storeAgg (xt:=25) (n:=3) (by kernel_rfl) R4.drew rfl (by decide) (by simp;exact⟨rfl,rfl⟩) ?_;intro w9 hw9;have B9:=BP.drew.kept hw9.kept (by omega);refine⟨B9,?_⟩;push_cast -dsimp;refine storeAgg (xt:=28) (n:=2) (by kernel_rfl) (E4.drew.kept hw9.kept (by omega)) rfl (by decide) (by simp;exact⟨rfl,rfl⟩) ?_;intro wa hwa;have R5:Blk wa w.heap.size 25 [.slice none 0 0,.slice none 0 0,.bool false]:=Blk.kept hw9.blk hwa.kept (by omega);have E5:Blk wa eb 28 [.int .i64 (en:Int),.int .i64 (pos:Int)]:=hwa.blk;have dR:cellsAt wa ⟨w.heap.size,0,none⟩ 0 3=some [.slice none 0 0,.slice none 0 0,.bool false]:=R5.cellsAt;have dE:cellsAt wa ⟨eb,0,none⟩ 0 2=some [.int .i64 (en:Int),.int .i64 (pos:Int)]:=E5.cellsAt;have bz:=hb4.trans ((((Kept.refl (fun i=>w.heap.size≤i) V4).drew.trans hw9.kept (fun i _ h=>by omega)).trans hwa.kept (fun i _ h=>by omega)).below (B:=w.heap.size) hb4.size (fun i h=>h));refine⟨B9.kept hwa.kept (by omega),?_⟩;push_cast -dsimp[dR,dE];exact⟨.inr ⟨en,pos,herr _ rfl,P4.ne _ rfl,rfl⟩,bz⟩
      | none =>
       obtain⟨hpo,rfl⟩:=hok rfl;have hXo:=hX2 rfl;have hb0:bad0=none:=by
        cases hb0:bad0 with
        | none=>rfl
        | some e=>rw[hB0 e hb0]at hXo;cases hXo
       have hbn:bad=none:=by
        cases hbn:bad with
        | none=>rfl
        | some e=>rw[hBd e hbn]at hXo;cases hXo
       obtain⟨cs,_,hcq,_,hVc⟩:=hN0 hb0;obtain⟨_,rs,_,hrq,_,hVr⟩:=hN hbn;have hgw:=hg.below hb4;have gF:=fault_agg hgw;have gFd:cellsAt V4.drew ⟨0,0,none⟩ 0 2=some [.int .i64 0,.int .i64 (-1)]:=gF;obtain⟨ca,cc,hcv⟩:=hOc.slice;obtain⟨ra,rc,hrv⟩:=hO1.slice;rw[hcv,hrv]at F4;have gO:∀w'':World,Blk w'' ob 25 [.slice ca cq.length cc,.slice ra rq.length rc,.bool els]→cellsAt w'' ⟨ob,0,none⟩ 0 3=some [.slice ca cq.length cc,.slice ra rq.length rc,.bool els]:=fun w'' h=>h.cellsAt;have dO:=gO _ F4.drew;have hFl:0<w.heap.size:=World.block_lt_of_cell? _ _ hg.f0;push_cast -dsimp;refine wpL_draw (fun w''=>Blk w'' ob 25 [.slice ca cq.length cc,.slice ra rq.length rc,.bool els]∧cellsAt w'' ⟨0,0,none⟩ 0 2=some [.int .i64 0,.int .i64 (-1)]) mixed (by kernel_rfl) ⟨F4.drew,gFd⟩ ?_;push_cast -dsimp[dO,gFd];refine⟨fun w'' h=>by rw[gO w'' h.1];exact rfl,fun w'' h=>by rw[h.2];exact rfl,?_⟩;refine storeAgg (xt:=25) (n:=3) (by kernel_rfl) R4.drew rfl (by decide) (by simp;exact⟨rfl,rfl,rfl⟩) ?_;intro w9 hw9;have B9:=F4.drew.kept hw9.kept (by omega);have b9:=hb4.trans (((Kept.refl (fun i=>w.heap.size≤i) V4).drew.trans hw9.kept (fun i _ h=>by omega)).below (B:=w.heap.size) hb4.size (fun i h=>h));refine⟨⟨B9,fault_agg (hg.below b9)⟩,?_⟩;push_cast -dsimp;refine storeAgg (xt:=28) (n:=2) (by kernel_rfl) (E4.drew.kept hw9.kept (by omega)) rfl (by decide) (by simp;exact⟨rfl,rfl⟩) ?_;intro wa hwa
       have R5:Blk wa w.heap.size 25 [.slice ca cq.length cc,.slice ra rq.length rc,.bool els]:=Blk.kept hw9.blk hwa.kept (by omega);have E5:Blk wa eb 28 [.int .i64 0,.int .i64 (-1)]:=hwa.blk;have dR:cellsAt wa ⟨w.heap.size,0,none⟩ 0 3=some [.slice ca cq.length cc,.slice ra rq.length rc,.bool els]:=R5.cellsAt;have dE:cellsAt wa ⟨eb,0,none⟩ 0 2=some [.int .i64 0,.int .i64 (-1)]:=E5.cellsAt;have ba:=b9.trans (hwa.kept.below (B:=w.heap.size) b9.size (fun i h=>by omega));refine⟨⟨B9.kept hwa.kept (by omega),fault_agg (hg.below ba)⟩,?_⟩;push_cast -dsimp[dR,dE];have kz1:Kept (fun i=>i<ob+1) V1 wa:=((((kV4.weaken (Y:=fun i=>i<ob+1) (fun i _ h=>by omega))).drew.trans hw9.kept (fun i _ h=>by omega))).trans hwa.kept (fun i _ h=>by omega);have kz0:Kept (fun i=>i<ob+1) V0 wa:=(hk.weaken (Y:=fun i=>i<ob+1) (fun i _ h=>by omega)).trans kz1 (fun i _ h=>h);have s1:Sl (·<w.heap.size) 3 (En encC) wa (.slice ca cq.length cc) cs:=by
        have hh:=(hOc.keptX kz0 (fun g hg h=>by have:=(hOc.block g hg).1;omega)).sl;rw[hcv,hcq]at hh;rw[hcq];exact(Sl.coded (f:=cQ) (fun _=>rfl) hh).weaken (fun i h=>by omega)
       have s2:Sl (·<w.heap.size) 4 (En encRu) wa (.slice ra rq.length rc) rs:=by
        have hh:=(hO1.keptX kz1 (fun g hg h=>by have:=(hO1.block g hg).1;omega)).sl;rw[hrv,hrq]at hh;rw[hrq];exact(Sl.coded (f:=rQ) (fun _=>rfl) hh).weaken (fun i h=>by omega)
       exact⟨.inl ⟨_,_,hpo,rfl,_,_,cs,rs,rfl,s1,s2,hVc.imp fun a c h=>h.mono kz0 (fun i h=>.inl h) (fun i h=>.inl (by omega)),hVr.imp fun a c h=>h.mono kz1 (fun i h=>.inl (by omega)) (fun i h=>.inl (by omega))⟩,ba⟩
 ·push_cast -dsimp;refine allocK (z:=[.int .i64 0,.int .i64 0]) (by kernel_rfl) ?_;intro w4 hw4;have z4:=hw4.size;push_cast -dsimp;refine storeAgg (xt:=28) (n:=2) (by kernel_rfl) hw4.blk rfl (by decide) (by simp;exact⟨rfl,rfl⟩) ?_;intro w5 hw5;have F5:Blk w5 w3.heap.size 28 [.int .i64 en,.int .i64 pos]:=hw5.blk;have z5:=hw5.size;have b35:Below w3.heap.size w3 w5:=hw4.below.trans (hw5.kept.below (B:=w3.heap.size) (by omega) (fun i h=>by omega));have hb5:=hb3.trans (b35.mono hb3.size);have hg5:=hg.below hb5;have d5:cellsAt w5 ⟨w3.heap.size,0,none⟩ 0 2=some [.int .i64 en,.int .i64 pos]:=F5.cellsAt;have g5:=fault_agg hg5;have R5:=R3.below b35 (by omega);have E5:=E3.below b35 (by omega);have hpe:parseR s=.error (en,pos):=by unfold parseR;rw[htok]
  push_cast -dsimp;refine wpL_seqV ?_;push_cast -dsimp[d5,g5];refine⟨fun _=>?_,fun h=>(h (fun hh=>hh.2)).elim⟩;refine wpL_draw (fun w''=>cellsAt w'' ⟨w3.heap.size,0,none⟩ 0 2=some [.int .i64 en,.int .i64 pos]) mixed (by kernel_rfl) d5 ?_;have d5d:cellsAt w5.drew ⟨w3.heap.size,0,none⟩ 0 2=some [.int .i64 en,.int .i64 pos]:=d5;push_cast -dsimp[d5d];refine⟨fun w'' h=>by rw[h];exact rfl,?_⟩;refine storeAgg (xt:=25) (n:=3) (by kernel_rfl) R5.drew rfl (by decide) (by simp;exact⟨rfl,rfl⟩) ?_;intro w9 hw9;have F9:=F5.drew.kept hw9.kept (by omega);refine⟨F9.cellsAt,?_⟩;push_cast -dsimp;refine storeAgg (xt:=28) (n:=2) (by kernel_rfl) (E5.drew.kept hw9.kept (by omega)) rfl (by decide) (by simp;exact⟨rfl,rfl⟩) ?_;intro wa hwa;have R6:Blk wa w.heap.size 25 [.slice none 0 0,.slice none 0 0,.bool false]:=Blk.kept hw9.blk hwa.kept (by omega);have E6:Blk wa eb 28 [.int .i64 (en:Int),.int .i64 (pos:Int)]:=hwa.blk;have dR:cellsAt wa ⟨w.heap.size,0,none⟩ 0 3=some [.slice none 0 0,.slice none 0 0,.bool false]:=R6.cellsAt;have dE:cellsAt wa ⟨eb,0,none⟩ 0 2=some [.int .i64 (en:Int),.int .i64 (pos:Int)]:=E6.cellsAt;have bz:=hb5.trans ((((Kept.refl (fun i=>w.heap.size≤i) w5).drew.trans hw9.kept (fun i _ h=>by omega)).trans hwa.kept (fun i _ h=>by omega)).below (B:=w.heap.size) hb5.size (fun i h=>h));refine⟨(F9.kept hwa.kept (by omega)).cellsAt,?_⟩;push_cast -dsimp[dR,dE];exact⟨.inr ⟨en,pos,hpe,hne,rfl⟩,bz⟩
theorem Sl.nil0 {α:Type}{X:Nat→Prop}{k:Nat}{R:List Value→α→Prop}{w:World}:Sl X k R w (.slice none 0 0) ([]:List α):=by
 unfold Sl;exact⟨none,0,rfl,Nat.le_refl _,fun i x h=>by simp at h⟩
def Errs (w:World)(v:Value)(n p:Int):Prop:=(v=.nilIface∧n=0∧p = -1)∨Placed w v n p
theorem Errs.below {w w':World}{v:Value}{n p:Int}(h:Errs w v n p)(hk:Below w.heap.size w w'):Errs w' v n p:=h.imp id fun h=>h.below hk
theorem placeE_c (v:Value)(n p:Int)(w:World)(hE:ErrVar w)(hv:Errs w v n p):Fun Tryz.prog 34 [v] w fun r w'=>r=.tuple #[.int .i64 n,.int .i64 p]∧Below w.heap.size w w':=by
 rcases hv with ⟨rfl,rfl,rfl⟩|hv
 ·exact(place0_c w).mono fun r w' ⟨h,hw⟩=>⟨h,by subst hw;exact Below.refl _ _⟩
 ·exact place_c v n p w hE hv
theorem is_c (v:Value)(n p a b:Int)(w:World)(hE:ErrVar w)(hv:Errs w v n p):Fun Tryz.prog 7 [v,.agg #[.int .i64 a,.int .i64 b]] w fun r w'=>r=.bool (decide (n=a∧p=b))∧Below w.heap.size w w':=by
 refine fun_of_vc Tryz.func7 rfl (by kernel_rfl) [4] rfl ?_;push_cast -dsimp(maxSteps:=4000000) [Tryz.ntmps7];refine boxK_of ?_;intro w1 hw1;push_cast -dsimp;refine callK_of (placeE_c v n p w1 ((Kept.new hw1 (X:=fun _=>False)).cell hE id) (hv.below hw1.below)) ?_;rintro _ w2 ⟨rfl,hb2⟩;have c0:w2.cell? ⟨w.heap.size,0,none⟩=some (.int .i64 a):=(hb2.cell (by have:=hw1.size;show w.heap.size<_;omega)).trans (hw1.cell rfl)
 have c1:w2.cell? ⟨w.heap.size,1,none⟩=some (.int .i64 b):=(hb2.cell (by have:=hw1.size;show w.heap.size<_;omega)).trans (hw1.cell rfl)
 push_cast -dsimp[c0,c1];have hb:Below w.heap.size w w2:=hw1.below.trans (hb2.mono (by have:=hw1.size;omega));constructor
 ·intro h;subst h;exact⟨by simp,hb⟩
 ·intro h;exact⟨by simp[h],hb⟩
theorem keptErr {w w':World}(h:Below w.heap.size w w')(hE:ErrVar w):ErrVar w':=(Kept.of_below h (X:=fun _=>False) (fun k hk hl=>by omega)).cell hE id
theorem sameSet_c (l:List Rg)(hl:l.length<1000000000)(X X':Nat→Prop)(v v':Value)(w:World)(hv:Sl X 2 (En encR) w v l)(hv':Sl X' 2 (En encR) w v' l) :
  Fun Tryz.prog 12 [v,v'] w fun r w'=>r=.bool true∧Below w.heap.size w w':=by
 obtain⟨a,c,rfl,hc⟩:=hv.shape;obtain⟨a',c',rfl,hc'⟩:=hv'.shape;refine fun_of_vc Tryz.func12 rfl (by kernel_rfl) [4] rfl ?_;push_cast -dsimp(maxSteps:=4000000) [Tryz.ntmps12];refine wpL_loop [4,5,11,12,13,14,15,16,17,18,19,20,21,22,23,24,25] (fun z wx=>∃(i:Nat),z 5=.int .i64 i∧i≤l.length∧Below w.heap.size w wx) (fun z _=>l.length-(intOf (z 5)).toNat) ?_ ?_
 ·exact⟨0,rfl,Nat.zero_le _,Below.refl _ _⟩
 ·intro z wx hI;obtain⟨i,h5,hi,hb⟩:=hI;push_cast -dsimp[h5];refine⟨fun hlt=>?_,fun hge=>?_⟩
  ·obtain⟨x,hx,hxm,hd,ht⟩:=lt_get (l:=l) (i:=i) (by omega);obtain⟨b,o,rfl,hX,hcell⟩:=(hv.below hb).get hx;obtain⟨b',o',rfl,hX',hcell'⟩:=(hv'.below hb).get hx;refine wpL_draw (fun w'=>∀a,w'.cell? a=wx.cell? a) mixed (by kernel_rfl) (fun _=>rfl) ?_;have g0:∀w'':World,(∀a,w''.cell? a=wx.cell? a)→cellsAt w'' ⟨b,o+i*2,none⟩ 0 2=some (encR x):=fun w'' hC=>cellsAt_of (encR x) 0 (fun j u hu=>by rw[hC];simpa using hcell j u hu);have g0':∀w'':World,(∀a,w''.cell? a=wx.cell? a)→cellsAt w'' ⟨b',o'+i*2,none⟩ 0 2=some (encR x):=fun w'' hC=>cellsAt_of (encR x) 0 (fun j u hu=>by rw[hC];simpa using hcell' j u hu);have d0:=g0 wx.drew (fun _=>rfl);have d0':=g0' wx.drew (fun _=>rfl);unfold encR at d0 d0';push_cast -dsimp[d0,d0'];refine⟨⟨by omega,by omega⟩,fun w'' hC=>by rw[g0 w'' hC];exact rfl,⟨by omega,by omega⟩,fun w'' hC=>by rw[g0' w'' hC];exact rfl,?_⟩;exact⟨⟨by omega,by omega⟩,⟨i+1,rfl,by omega,hb.drew⟩,by rw[h5];simp only[intOf];omega⟩
  ·exact hb
end Go.Proofs.YtodeeahdhnjpkaaGreatDoor
end
section
namespace Cae
def fileOf (s:List UInt8):FileP:=match parseR s with
 | .ok f=>f
 | .error _=>⟨[],[],false⟩
def faultOf (s:List UInt8):Int×Int:=match parseR s with
 | .ok _=>(0,-1)
 | .error (e,p)=>((e:Int),(p:Int))
theorem pn_textS {f:FileP}{r:RuleP}(hr:r∈f.rules):pn r.before≤(fileText f).length+5∧pn r.after≤(fileText f).length+5:=by
 have h1:=flatS_mem ruleText hr;have h2:=rt_len r;have h3:(f.rules.flatMap ruleText).length≤(fileText f).length:=by simp only[fileText,List.length_append];omega
 have h4:=pt_zero r.before;have h5:=pt_zero r.after;have hp1:pn r.before=(patText r.before 2).length+3:=rfl;have hp2:pn r.after=(patText r.after 2).length+3:=rfl;omega
end Cae
namespace Go.Proofs.YtodeeahdhnjpkaaGreatDoor
open Go.Vc Go.Proofs Go.RowKit Cae
attribute [local irreducible] wpL callK valK unitK runK Fun Sl Vc.Own vc vcOps opK pureK
theorem fileOf_ok (s:List UInt8)(hs:s.length≤1000000):FileOk (fileOf s)∧(fileOf s).classes.length≤20∧(fileOf s).rules.length≤20∧∀r∈(fileOf s).rules,pn r.before≤100000000∧pn r.after≤100000000:=by
 unfold fileOf;cases h:parseR s with
 | error e =>
  dsimp only;exact⟨⟨fun c hc=>(by cases hc),fun r hr=>(by cases hr)⟩,Nat.zero_le _,Nat.zero_le _,fun r hr=>by cases hr⟩
 | ok f =>
  dsimp only;have h1:=parse_ok hs h;have h2:=text_len h;exact⟨h1.1,h1.2.1,h1.2.2,fun r hr=>by have:=pn_textS hr;omega⟩
def ReadV (w w':World)(s:List UInt8)(v:Value):Prop:=∃cv rv,(∃a k c,cv=.slice a k c)∧(∃a k c,rv=.slice a k c)∧v=.agg #[cv,rv,.bool (fileOf s).els]∧FileV (·<w.heap.size) w' v (fileOf s)
theorem readV_of {w w':World}{s:List UInt8}{v:Value}(h:FileV (·<w.heap.size) w' v (fileOf s)):ReadV w w' s v:=by
 obtain⟨cv,rv,cs,rs,rfl,S1,S2,A1,A2⟩:=h;obtain⟨ca,cc,hc,_⟩:=S1.shape;obtain⟨ra,rc,hr,_⟩:=S2.shape;exact⟨cv,rv,⟨_,_,_,hc⟩,⟨_,_,_,hr⟩,rfl,cv,rv,cs,rs,rfl,S1,S2,A1,A2⟩
theorem fileV_none (X:Nat→Prop)(w:World):FileV X w (.agg #[.slice none 0 0,.slice none 0 0,.bool false]) ⟨[],[],false⟩:=⟨_,_,[],[],rfl,Sl.nil0,Sl.nil0,.nil,.nil⟩
theorem refRead {w w':World}{s:List UInt8}{r:Value}(h:RParsR w s r w'):∃v,r=.tuple #[v,.agg #[.int .i64 (faultOf s).1,.int .i64 (faultOf s).2]]∧ReadV w w' s v:=by
 rcases h with ⟨f,v,hp,rfl,hv⟩|⟨e,p,hp,_,rfl⟩
 ·have hf:fileOf s=f:=by unfold fileOf;rw[hp]
  have hq:faultOf s=(0,-1):=by unfold faultOf;rw[hp]
  rw[hq];exact⟨v,rfl,readV_of (by rw[hf];exact hv)⟩
 ·have hf:fileOf s=⟨[],[],false⟩:=by unfold fileOf;rw[hp]
  have hq:faultOf s=((e:Int),(p:Int)):=by unfold faultOf;rw[hp]
  rw[hq];exact⟨_,rfl,readV_of (by rw[hf];exact fileV_none _ _)⟩
end Go.Proofs.YtodeeahdhnjpkaaGreatDoor
end
section
set_option linter.unusedSectionVars false
namespace Go.Vc
open Go.RowKit
section
variable {P:Program} {α:Type} [DecidableEq α] {key:α→Value}
def RgI (key:α→Value)(w:World)(b r:Nat)(kvs:List (α×Value))(n:Nat):Prop :=
 ∃(es:Array MapEntry) (clock:Nat) (seen:Array Nat) (c0:Nat),w.heap[b]?=some (.map es clock)∧(es.toList.map fun e=>(e.key,e.val))=(kvs.map fun p=>(key p.1,p.2))∧Stm es.toList clock ∧
  w.heap[r]?=some (.mapIter (some b) clock seen c0)∧clock≤c0∧(leftOf es seen).size=n
def RgAt (w:World)(b r:Nat)(k v:Value):Prop :=
 ∃(es:Array MapEntry) (clock since:Nat) (seen:Array Nat) (e:MapEntry),w.heap[b]?=some (.map es clock)∧Stm es.toList clock∧w.heap[r]?=some (.mapIter (some b) since (seen.push e.born) clock)∧e∈es.toList∧e.key=k∧e.val=v
def leftW (w:World)(b r:Nat):Nat:=match w.heap[b]?,w.heap[r]? with
 | some (.map es _),some (.mapIter _ _ seen _)=>(leftOf es seen).size
 | _,_=>0
theorem RgI.left {w:World}{b r n:Nat}{kvs:List (α×Value)}(h:RgI key w b r kvs n):leftW w b r=n:=by
 obtain⟨es,clock,seen,c0,h1,_,_,h2,_,h3⟩:=h;unfold leftW;rw[h1,h2];exact h3
theorem RgI.lt {w:World}{b r n:Nat}{kvs:List (α×Value)}(h:RgI key w b r kvs n):b<w.heap.size∧r<w.heap.size:=by
 obtain⟨es,clock,seen,c0,h1,_,_,h2,_,h3⟩:=h;exact⟨(Array.getElem?_eq_some_iff.1 h1).1,(Array.getElem?_eq_some_iff.1 h2).1⟩
theorem RgI.below {B:Nat}{w w':World}{b r n:Nat}{kvs:List (α×Value)}(h:RgI key w b r kvs n)(hk:Below B w w')(hb:b<B)(hr:r<B):RgI key w' b r kvs n:=by
 obtain⟨es,clock,seen,c0,h1,h2,h3,h4,h5⟩:=h;exact⟨es,clock,seen,c0,(hk.block b hb).trans h1,h2,h3,(hk.block r hr).trans h4,h5⟩
theorem rangeG {mt kt et:TypeId}{w:World}{b:Nat}{kvs:List (α×Value)}{t:Fr}{K:VK}{Q:EP}{p}(hm:P.underlying mt=some (.map kt et))(h:MapG key w b kvs)
  (kk:∀w',RgI key w' b w.heap.size kvs kvs.length→Below w.heap.size w w'→w'.heap.size=w.heap.size+1→K (.pointer (some ⟨w.heap.size,0,none⟩)) w'):valK P (Instr.range mt (.map (some b))) t w K Q p:=by
 have hlt:=h.lt;obtain⟨es,clock,h1,h2,h3⟩:=h;refine valK_of (run_range_map w mt kt et b es clock hm h1) (kk _ ⟨es,clock,#[],clock,(heap_alloc_old w _ hlt).trans h1,h2,h3,heap_alloc_new w _,Nat.le_refl _,?_⟩ ((Below.refl _ _).alloc (Nat.le_refl _) _) (by simp));have hl:es.size=kvs.length:=by have:=congrArg List.length h2;simpa using this
 have hf:es.filter (fun e=>!(#[]:Array Nat).contains e.born)=es:=Array.filter_eq_self.2 (fun x hx=>by simp);unfold leftOf;rw[hf];exact hl
theorem nextG {w:World}{b r n:Nat}{ty:TypeId}{kvs:List (α×Value)}{t:Fr}{K:VK}{Q:EP}{p}(h:RgI key w b r kvs n)
  (k0:n=0→K (.tuple #[.bool false]) w)
  (k1:∀w' x m,x∈kvs→m<n→RgI key w' b r kvs m→RgAt w' b r (key x.1) x.2→Kept (·=r) w w'→w'.heap.size=w.heap.size→K (.tuple #[.bool true,key x.1,x.2]) w') :
  valK P (Instr.next (.pointer (some ⟨r,0,none⟩)) false ty) t w K Q p:=by
 obtain⟨l1,l2⟩:=h.lt;obtain⟨es,clock,seen,c0,h1,h2,h3,h4,h5,h6⟩:=h;have hne:r≠b:=fun e=>by rw[e,h1]at h4;cases h4
 have hold:∀x∈es.toList,x.born<clock:=fun x hx=>h3.1 _ (List.mem_map.2 ⟨x,hx,rfl⟩);rcases run_next_at (P:=P) w ty r b clock c0 seen es clock h4 h1 hold h5 with ⟨h0,hrun⟩|⟨e,he,w1,hal,hrun⟩
 ·exact valK_of hrun (k0 (by omega))
 ·have he0:=he;have hem:e∈es.toList:=by
   unfold leftOf at he;rw[Array.toList_filter]at he;exact(List.mem_filter.1 he).1
  have hx:(e.key,e.val)∈kvs.map fun p=>(key p.1,p.2):=by rw[←h2];exact List.mem_map.2 ⟨e,hem,rfl⟩
  obtain⟨x,hxm,hxe⟩:=List.mem_map.1 hx;obtain⟨e1,e2⟩:=Prod.mk.inj hxe;have hh:w1.heap=w.heap:=by rcases hal with rfl|rfl<;>rfl
  have hk:Kept (·=r) w (ChangeMaps.setBlock w1 r (.mapIter (some b) clock (seen.push e.born) clock)):=by
   have k0:Kept (·=r) w w1:=by
    rcases hal with rfl|rfl
    ·exact Kept.refl _ _
    ·exact(Kept.refl _ _).drew
   refine k0.trans ⟨rfl,rfl,rfl,by simp[ChangeMaps.setBlock],fun i hi hn=>by simp[ChangeMaps.setBlock,Array.getElem?_setIfInBounds,Ne.symm hn]⟩ (fun i _ h=>h)
  have hb':=(hk.block b l1 (fun e=>hne e.symm)).trans h1;have hr':(ChangeMaps.setBlock w1 r (.mapIter (some b) clock (seen.push e.born) clock)).heap[r]?=some (.mapIter (some b) clock (seen.push e.born) clock):=by
   simp[ChangeMaps.setBlock,hh,l2]
  rw[←e1,←e2]at hrun;refine valK_of hrun (k1 _ x _ hxm (by rw[←h6];exact left_shrinks es seen e he0) ⟨es,clock,_,clock,hb',h2,h3,hr',Nat.le_refl _,rfl⟩ ⟨es,clock,clock,seen,e,hb',h3,hr',hem,e1.symm,e2.symm⟩ hk (by simp[ChangeMaps.setBlock,hh]))
theorem entryG {w:World}{b r:Nat}{k v:Value}{t:Fr}{K:VK}{Q:EP}{p}(h:RgAt w b r k v)(kk:K (.tuple #[k,v]) w):valK P (Instr.entry (.pointer (some ⟨r,0,none⟩))) t w K Q p:=by
 obtain⟨es,clock,since,seen,e,h1,h2,h3,h4,rfl,rfl⟩:=h;exact valK_of (run_entry_at w r b since seen es clock e h3 h1 h4 h2.2) kk
theorem opK_next (d x ty pos af g){t:Fr}{w:World}{K:VK}{Q:EP}(p):opK P ⟨d,.next x false,ty,pos,af,g⟩ t w K Q p=valK P (Instr.next (ev t x) false ty) t w K Q .mk:=(rfl)
theorem opK_entry (d x ty pos af g){t:Fr}{w:World}{K:VK}{Q:EP}(p):opK P ⟨d,.entry x,ty,pos,af,g⟩ t w K Q p=valK P (Instr.entry (ev t x)) t w K Q .mk:=(rfl)
attribute [push_cast] opK_next opK_entry
theorem rangeNil {mt kt et:TypeId}{w:World}{t:Fr}{K:VK}{Q:EP}{p}(hm:P.underlying mt=some (.map kt et))
  (kk:∀w',w'.heap[w.heap.size]?=some (.mapIter none 0 #[] 0)→Below w.heap.size w w'→w'.heap.size=w.heap.size+1→K (.pointer (some ⟨w.heap.size,0,none⟩)) w'):valK P (Instr.range mt (.map none)) t w K Q p :=
 valK_of (run_range_nilMap w mt kt et hm) (kk _ (heap_alloc_new w _) ((Below.refl _ _).alloc (Nat.le_refl _) _) (by simp))
theorem nextNil {w:World}{r a b:Nat}{s:Array Nat}{ty:TypeId}{t:Fr}{K:VK}{Q:EP}{p}(h:w.heap[r]?=some (.mapIter none a s b))(kk:K (.tuple #[.bool false]) w) :
  valK P (Instr.next (.pointer (some ⟨r,0,none⟩)) false ty) t w K Q p:=by
 refine valK_of (v:=.tuple #[.bool false]) (w':=w) ?_ kk;simp only[Instr.next,getObj,Sem.run_bind,Sem.run,h,Result.andThen];rfl
end
end Go.Vc
end
section
namespace Go.Vc
open Go.RowKit
section
variable {P:Program}
def mixKM (P:Program)(o:Oper)(t:Fr)(w:World)(C:World→Prop)(K:VK)(_:Ph (o,C,K)):Prop :=
 match o.op with
 | .call { callee:=.builtin .len,args:=_,argTypes:=_ }=>∃n,(∀w',C w'→(execOp (ev t) o).run P w'=.ok (.value n) w')∧K n w
 | _=>mixK P o t w C K .mk
def vcMixM (P:Program)(ops:List Oper)(C:World→Prop)(R:Fr→World→Prop):(l:List Oper)→Fr→World→Ph (ops,C,R,l)→Prop
 | [],t,w,_=>R t w
 | o::r,t,w,_=>match o.guard with
  | none=>mixKM P o t w C (fun v w'=>vcMixM P ops C R r (put t o.dst v) w' .mk) .mk
  | some (j,want)=>guardK (slotOf ops j) want t (fun t'=>mixKM P o t' w C (fun v w'=>vcMixM P ops C R r (put t' o.dst v) w' .mk) .mk) (fun t'=>vcMixM P ops C R r (put t' o.dst undef) w .mk) .mk
theorem mixOp_of_mixKM {ops:List Oper}{i:Nat}{o:Oper}{C:World→Prop}{t:Fr}{w:World}{K:VK}{N:Act→World→Prop}(hi:ops[i]?=some o)(hw:Region.wanted o (yielded ops.toArray t.toArray)=true)
  (hn:∀v w',K v w'→N ⟨(put t o.dst v).toArray,[]⟩ w') (h:mixKM P o t w C K .mk):mixOp P ops.toArray C i N ⟨t.toArray,[]⟩ w:=by
 unfold mixKM at h;split at h
 ·rename_i args tys ho;have hc:chain P o=false:=by simp[chain,ho]
  unfold mixOp;simp only[List.getElem?_toArray,hi,hw,if_true,ev_eq,hc,Bool.false_eq_true,if_false];obtain⟨v,hr,hk⟩:=h;exact⟨v,hr,by rw[put_eq];exact hn _ _ hk⟩
 ·exact mixOp_of_mixK hi hw hn h
theorem wpLex_of_vcMixM {ops:List Oper}{C:World→Prop}{R:Fr→World→Prop}{N:Act→World→Prop}(hn:∀t w,R t w→N ⟨t.toArray,[]⟩ w):∀(l:List Oper) (k:Nat) (t:Fr) (w:World),(∀j,l[j]?=ops[k+j]?) →
  vcMixM P ops C R l t w .mk→wpLex P ops.toArray C N (List.range' k l.length) ⟨t.toArray,[]⟩ w
 | [],_,_,_,_,h=>hn _ _ h
 | o::r,k,t,w,hl,h=>by
  have h0:ops[k]?=some o:=by simpa using(hl 0).symm
  have ih:=fun t w=>wpLex_of_vcMixM (C:=C) hn r (k+1) t w (fun j=>by have:=hl (j+1);simpa[Nat.add_assoc,Nat.add_comm 1 j] using this);simp only[List.length_cons,List.range'_succ,wpLex];simp only[vcMixM]at h;split at h
  ·rename_i hg;exact mixOp_of_mixKM h0 (by simp[Region.wanted,hg]) (fun v w' hk=>ih _ _ hk) h
  ·rename_i j want hg;rcases guard_cases hg h with ⟨hw,hh⟩|⟨hw,hh⟩
   ·exact mixOp_of_mixKM h0 hw (fun v w' hk=>ih _ _ hk) hh
   ·exact mixOp_skip h0 hw (ih _ _ hh)
theorem wpL_drawM {id:Nat}{l:List Oper}{t:Fr}{w:World}{Q:EP}{p}(C:World→Prop)(hm:P.follows .mixedOrders=true)(hB:mixB P l.toArray=true)(hC:C w.drew)
  (h:vcMixM P l C (Q .normal) l t w.drew .mk):wpL P (.region id l.toArray true) Q t w p:=by
 unfold wpL;simp only[mixB,Bool.and_eq_true]at hB;refine wp_region_any hm (wpAny_of_mix (C:=C) (R:=fun a w=>lift Q .normal a w) (fun _ _ h=>h) _ _ _ _ hC ?_);refine wpMix_lex hB.1 _ 0 _ _ _ (by simp) hC (fun j o _ hl=>by simp[Array.getElem?_replicate]at hl;split at hl<;>simp at hl) hB.2 ?_
 have:=wpLex_of_vcMixM (P:=P) (ops:=l) (C:=C) (R:=Q .normal) (N:=fun a w=>lift Q .normal a w) (fun t w hk=>⟨rfl,by simpa using hk⟩) l 0 t w.drew (fun j=>by simp) h;simpa using this
variable {t:Fr} {w:World} {C:World→Prop} {K:VK} {R:Fr→World→Prop}
theorem vcMixM_nil (ops)(p):vcMixM P ops C R [] t w p=R t w:=(rfl)
theorem vcMixM_plain (ops)(d op ty pos af r)(p):vcMixM P ops C R (⟨d,op,ty,pos,af,none⟩::r) t w p=mixKM P ⟨d,op,ty,pos,af,none⟩ t w C (fun v w'=>vcMixM P ops C R r (put t d v) w' .mk) .mk:=(rfl)
theorem vcMixM_guard (ops)(d op ty pos af j want r)(p):vcMixM P ops C R (⟨d,op,ty,pos,af,some (j,want)⟩::r) t w p =
  guardK (slotOf ops j) want t (fun t'=>mixKM P ⟨d,op,ty,pos,af,some (j,want)⟩ t' w C (fun v w'=>vcMixM P ops C R r (put t' d v) w' .mk) .mk) (fun t'=>vcMixM P ops C R r (put t' d undef) w .mk) .mk:=rfl
theorem mixKM_move (d x ty pos af g)(p):mixKM P ⟨d,.move x,ty,pos,af,g⟩ t w C K p=mixK P ⟨d,.move x,ty,pos,af,g⟩ t w C K .mk:=(rfl)
theorem mixKM_pick (d c a b ty pos af g)(p):mixKM P ⟨d,.pick c a b,ty,pos,af,g⟩ t w C K p=mixK P ⟨d,.pick c a b,ty,pos,af,g⟩ t w C K .mk:=(rfl)
theorem mixKM_bin (d op xt x y yt ty pos af g)(p):mixKM P ⟨d,.binOp op xt x y yt,ty,pos,af,g⟩ t w C K p=mixK P ⟨d,.binOp op xt x y yt,ty,pos,af,g⟩ t w C K .mk:=(rfl)
theorem mixKM_un (d op xt x ty pos af g)(p):mixKM P ⟨d,.unOp op xt x,ty,pos,af,g⟩ t w C K p=mixK P ⟨d,.unOp op xt x,ty,pos,af,g⟩ t w C K .mk:=(rfl)
theorem mixKM_load (d xt x ty pos af g)(p):mixKM P ⟨d,.load xt x,ty,pos,af,g⟩ t w C K p=mixK P ⟨d,.load xt x,ty,pos,af,g⟩ t w C K .mk:=(rfl)
theorem mixKM_call (d f args tys ty pos af g)(p):mixKM P ⟨d,.call { callee:=.value f,args:=args,argTypes:=tys },ty,pos,af,g⟩ t w C K p=mixK P ⟨d,.call { callee:=.value f,args:=args,argTypes:=tys },ty,pos,af,g⟩ t w C K .mk:=(rfl)
attribute [push_cast] vcMixM_nil vcMixM_plain vcMixM_guard mixKM_move mixKM_pick mixKM_bin mixKM_un mixKM_load mixKM_call
theorem mixKM_len {d x aty ty pos af g}{t:Fr}{w:World}{C:World→Prop}{K:VK}{p}{n:Nat}(h:∀w',C w'→(execOp (ev t) ⟨d,.call { callee:=.builtin .len,args:=#[x],argTypes:=#[aty] },ty,pos,af,g⟩).run P w'=.ok (.value (.int .i64 n)) w')(k:K (.int .i64 n) w) :
  mixKM P ⟨d,.call { callee:=.builtin .len,args:=#[x],argTypes:=#[aty] },ty,pos,af,g⟩ t w C K p:=⟨_,h,k⟩
theorem lenMap_run {α:Type}[DecidableEq α]{key:α→Value}{w:World}{b:Nat}{kvs:List (α×Value)}{d:Option Tmp}{x:Operand}{aty ty kt et:TypeId}{pos af g}{t:Fr}{n:Nat}(hd:P.underlying aty=some (.map kt et))(hx:ev t x=.map (some b))(hm:MapG key w b kvs)(hn:kvs.length=n) :
  (execOp (ev t) ⟨d,.call { callee:=.builtin .len,args:=#[x],argTypes:=#[aty] },ty,pos,af,g⟩).run P w=.ok (.value (.int .i64 n)) w:=by
 subst hn;obtain⟨es,clock,hb,he,_⟩:=hm;have hl:es.size=kvs.length:=by have:=congrArg List.length he;simpa using this
 have hg:(getObj b).run P w=.ok (.map es clock) w:=by simp[getObj,Sem.run,hb]
 unfold execOp;simp[resolve,invoke,builtin,Builtin.len_,hx,run_underlying hd,goInt,hg,hl]
theorem lenNil_run {w:World}{d:Option Tmp}{x:Operand}{aty ty kt et:TypeId}{pos af g}{t:Fr}(hd:P.underlying aty=some (.map kt et))(hx:ev t x=.map none) :
  (execOp (ev t) ⟨d,.call { callee:=.builtin .len,args:=#[x],argTypes:=#[aty] },ty,pos,af,g⟩).run P w=.ok (.value (.int .i64 (0:Nat))) w:=by
 unfold execOp;simp[resolve,invoke,builtin,Builtin.len_,hx,run_underlying hd,goInt]
end
end Go.Vc
end
