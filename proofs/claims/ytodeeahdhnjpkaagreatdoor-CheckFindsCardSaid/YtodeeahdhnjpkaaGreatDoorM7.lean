/- Texts of this claim, merged: Rset, Rtxt, Rpar, Bsm, Rr1, AsF, As, Tell, TellP, RowR, Pmean, Pmean2, Pmean3, Pok, Rp5. -/
import Derived.Test.YtodeeahdhnjpkaaGreatDoorM6
import Derived.Test.YtodeeahdhnjpkaaGreatDoorTie
import Derived.Lay
import Derived.Carry
import Derived.SevenTiedAt
import Derived.LaidHandle
import Derived.LaidSub
import Derived.LaidLaws
import Derived.Lib.LaidTab
import Derived.HandedShaped
import Derived.Shelf.Vars
import Derived.Lib.LaidU8
import Derived.LaidOnce
set_option maxRecDepth 100000
set_option linter.unusedSimpArgs false
set_option linter.unusedVariables false
set_option maxHeartbeats 8000000
section
namespace Go.Proofs.YtodeeahdhnjpkaaGreatDoor
open Go.Vc Go.Proofs Go.RowKit Cae
attribute [local irreducible] wpL callK valK unitK runK Fun Sl Vc.Own vc vcOps opK pureK
theorem rin_c (a b c:Int)(w:World):Fun Tryz.prog 73 [.int .i64 a,.int .i64 b,.int .i64 c] w fun r w'=>r=.bool (decide (b≤a∧a≤c))∧w'=w:=by
 refine fun_of_vc Tryz.func73 rfl (by kernel_rfl) [6] rfl ?_;push_cast -dsimp(maxSteps:=4000000) [Tryz.ntmps73];constructor
 ·intro h;simp[h]
 ·intro h;simp[h]
def lastAt (s:List Rg)(i:Nat):Int:=if i=0 then -2 else (s.getD (i-1) (0,0)).2
theorem rightSetR_c (s:List Rg)(hs:s.length<1000000000)(X:Nat→Prop)(v:Value)(w:World)(hv:Sl X 2 (En encR) w v s) :
  Fun Tryz.prog 115 [v] w fun r w'=>r=.bool (setRight (-2) s)∧Below w.heap.size w w':=by
 obtain⟨a,c,rfl,hc⟩:=hv.shape;refine fun_of_vc Tryz.func115 rfl (by kernel_rfl) [2] rfl ?_;push_cast -dsimp(maxSteps:=4000000) [Tryz.ntmps115];refine wpL_loop [2,3,4,7,8,9,10,11,12,13,14,15,16,17,18,19,20,21,22,23,24,25,26,27,28,29,30,31,32,33,34,35,36,37,38,39,40] (fun z wx=>∃(i:Nat),z 7=.int .i64 i∧i≤s.length∧setRight (lastAt s i) (s.drop i)=setRight (-2) s∧(0<i→0≤lastAt s i∧lastAt s i≤1114111)∧Below w.heap.size w wx) (fun z _=>s.length-(intOf (z 7)).toNat) ?_ ?_
 ·exact⟨0,rfl,Nat.zero_le _,rfl,fun h=>absurd h (by omega),Below.refl _ _⟩
 ·intro z wx hI;obtain⟨i,h7,hi,hR,hL,hb⟩:=hI;have szx:=hb.size;push_cast -dsimp[h7];refine⟨fun hlt=>?_,fun hge=>?_⟩
  ·have hex:=lt_get (l:=s) (i:=i) (by omega);obtain⟨r,hex⟩:=hex;have hr:=hex.1;have hd:=hex.2.2.1;rw[hd,setRight]at hR;have hget:=(hv.below hb).get hr;obtain⟨b,o,rfl,hX,hcell⟩:=hget;have ce:cellsAt wx ⟨b,o+i*2,none⟩ 0 2=some [.int .i64 r.1,.int .i64 r.2]:=cellsAt_of (encR r) 0 (fun k u hu=>by simpa using hcell k u hu);push_cast -dsimp[ce];refine⟨⟨by omega,by omega⟩,?_⟩;refine allocK (z:=[.int .i64 0,.int .i64 0]) (by kernel_rfl) ?_;intro w1 hw1;push_cast -dsimp;refine storeAgg (n:=2) (by kernel_rfl) hw1.blk rfl (by simp) (by simp[Value.oneCell']) ?_;intro w2 hw2;have sz1:=hw1.size;have sz2:=hw2.size;have hb2:Below wx.heap.size wx w2:=hw1.below.trans (hw2.kept.below (by omega) (fun _ h=>by omega));have hB2:Blk w2 wx.heap.size 104 [.int .i64 r.1,.int .i64 r.2]:=hw2.blk;have hbd:Below w.heap.size w w2.drew:=(hb.trans (hb2.mono szx)).drew;have hprev:0<i→w2.drew.cell? ⟨b,o+(i-1)*2+1,none⟩=some (.int .i64 (lastAt s i)):=fun h0=>by
    have hq:s[i-1]?=some s[i-1]:=List.getElem?_eq_getElem (by omega);obtain⟨b',o',he,_,hc'⟩:=(hv.below hbd).get hq;cases he
    have:=hc' 1 _ rfl;rw[this];unfold lastAt;rw[if_neg (by omega),List.getD_eq_getElem?_getD,hq];rfl
   push_cast -dsimp;refine wpL_draw (fun w'=>∀a,w'.cell? a=w2.cell? a) mixed (by kernel_rfl) (fun _=>rfl) ?_;have f0:w2.drew.cell? ⟨wx.heap.size,0,none⟩=some (.int .i64 r.1):=hB2.drew.cell rfl;have f1:w2.drew.cell? ⟨wx.heap.size,1,none⟩=some (.int .i64 r.2):=hB2.drew.cell rfl;have g0:∀w'':World,(∀a,w''.cell? a=w2.cell? a)→w''.cell? ⟨wx.heap.size,0,none⟩=some (.int .i64 r.1):=fun w'' hC=>(hC _).trans f0;have g1:∀w'':World,(∀a,w''.cell? a=w2.cell? a)→w''.cell? ⟨wx.heap.size,1,none⟩=some (.int .i64 r.2):=fun w'' hC=>(hC _).trans f1;have gp:0<i→∀w'':World,(∀a,w''.cell? a=w2.cell? a)→w''.cell? ⟨b,o+(i-1)*2+1,none⟩=some (.int .i64 (lastAt s i)):=fun h0 w'' hC=>(hC _).trans (hprev h0);push_cast -dsimp[f0];refine⟨fun w'' hC=>by rw[g0 w'' hC];exact rfl,?_⟩;refine callK_of (rin_c r.1 0 1114111 w2.drew) ?_;rintro _ w3 ⟨rfl,rfl⟩;refine⟨fun _=>rfl,?_⟩;have hstop:(r.1≤lastAt s i+1∨r.2<r.1∨1114111<r.2)→Value.bool false=Value.bool (setRight (-2) s):=fun h=>by rw[if_pos h]at hR;rw[←hR]
   have hneg:i=0→lastAt s i = -2:=fun h=>by unfold lastAt;rw[if_pos h]
   by_cases c1:0≤r.1∧r.1≤1114111
   ·rw[decide_eq_true c1];push_cast -dsimp[f0,f1];refine⟨fun w'' hC=>by rw[g1 w'' hC];exact rfl,fun w'' hC=>by rw[g0 w'' hC];exact rfl,?_⟩;refine callK_of (rin_c r.2 r.1 1114111 w2.drew) ?_;rintro _ w3 ⟨rfl,rfl⟩;refine⟨fun _=>rfl,?_⟩;have hcont:(i=0∨¬r.1<lastAt s i+2)→(r.1≤r.2∧r.2≤1114111)→setRight (lastAt s (i+1)) (s.drop (i+1))=setRight (-2) s∧(0<i+1→0≤lastAt s (i+1)∧lastAt s (i+1)≤1114111):=fun h c2=>by
     have hl:lastAt s (i+1)=r.2:=by unfold lastAt;rw[if_neg (by omega),Nat.add_sub_cancel,List.getD_eq_getElem?_getD,hr];rfl
     rw[hl];refine⟨?_,fun _=>by omega⟩;rw[if_neg (by
      rcases h with h|h
      ·have:=hneg h;omega
      ·omega)]at hR
     exact hR
    by_cases c2:r.1≤r.2∧r.2≤1114111
    ·rw[decide_eq_true c2];have eidx:((i:Int)-1).toNat=i-1:=by omega
     by_cases c3:0<i
     ·have fp:=hprev c3;have gq:=gp c3;have hLc:=hL c3;push_cast -dsimp[f0,eidx,fp];refine⟨fun _=>⟨fun w'' hC=>by rw[g0 w'' hC];exact rfl,⟨by omega,by omega⟩,⟨by omega,by omega⟩,fun w'' hC=>by rw[gq w'' hC];exact rfl,⟨by omega,by omega⟩,fun hbad=>⟨hstop (by omega),hbd⟩,fun hok=>?_⟩,fun h=>absurd h (by omega)⟩;obtain⟨k1,k2⟩:=hcont (.inr hok) c2;exact⟨⟨by omega,by omega⟩,⟨i+1,rfl,by omega,k1,k2,hbd⟩,by rw[h7];simp only[intOf];omega⟩
     ·push_cast -dsimp[f0,eidx];refine⟨fun h=>absurd h (by omega),fun _=>?_⟩;obtain⟨k1,k2⟩:=hcont (.inl (by omega)) c2;exact⟨⟨by omega,by omega⟩,⟨i+1,rfl,by omega,k1,k2,hbd⟩,by rw[h7];simp only[intOf];omega⟩
    ·rw[decide_eq_false c2];push_cast -dsimp;exact⟨hstop (by omega),hbd⟩
   ·rw[decide_eq_false c1];push_cast -dsimp;refine⟨hstop ?_,hbd⟩;rcases Nat.eq_zero_or_pos i with h|h
    ·have:=hneg h;omega
    ·have:=hL h;omega
  ·rw[List.drop_eq_nil_of_le (by omega),setRight]at hR;exact⟨by rw[←hR],hb⟩
end Go.Proofs.YtodeeahdhnjpkaaGreatDoor
end
section
namespace Cae
def textTo (s:List Rg)(i:Nat):List UInt8:=Go.Lib.join ((s.take i).map rgP) [32]
theorem join_snoc (x:List UInt8):∀(l:List (List UInt8)),Go.Lib.join (l++[x]) [32]=if l=[] then x else Go.Lib.join l [32]++32::x
 | []=>by simp[Go.Lib.join_one]
 | y::l=>by
  rw[if_neg (by simp),List.cons_append,Go.Lib.join_cons,Go.Lib.join_cons];simp[Go.Lib.joinTail]
theorem textTo_next {s:List Rg}{i:Nat}{x:Rg}(ht:s.take (i+1)=s.take i++[x])(hi:i<s.length):textTo s (i+1)=(if 0<i then textTo s i++[32] else [])++rgP x:=by
 unfold textTo;rw[ht,List.map_append,List.map_cons,List.map_nil,join_snoc];by_cases h:0<i
 ·rw[if_pos h,if_neg (by
   intro e
   have:=congrArg List.length e;simp at this;rcases this with h'|h'
   ·omega
   ·subst h';simp at hi)]
  simp
 ·have:i=0:=by omega
  subst this;simp
theorem textTo_len (s:List Rg):∀i:Nat,i≤s.length→(textTo s i).length≤20*i
 | 0,_=>Nat.le_refl 0
 | i+1,h=>by
  have ih:=textTo_len s i (by omega);have ht:s.take (i+1)=s.take i++[s[i]'(by omega)]:=(List.take_append_getElem (by omega)).symm
  have:=rgP_len (s[i]'(by omega));rw[textTo_next ht (by omega),List.length_append];split
  ·rw[List.length_append,List.length_singleton];omega
  ·simp;omega
end Cae
namespace Go.Proofs.YtodeeahdhnjpkaaGreatDoor
open Go.Vc Go.Proofs Go.RowKit Cae
attribute [local irreducible] wpL callK valK unitK runK Fun Sl Vc.Own vc vcOps opK pureK
theorem setTextR_c (s:List Rg)(hs:s.length<10000000)(hr:setRight (-2) s=true)(X:Nat→Prop)(v:Value)(w:World)(hv:Sl X 2 (En encR) w v s)(h:Db w) :
  Fun Tryz.prog 116 [v] w fun r w'=>r=str (printP s)∧Below w.heap.size w w':=by
 obtain⟨a,c,rfl,hc⟩:=hv.shape;refine fun_of_vc Tryz.func116 rfl (by kernel_rfl) [2] rfl ?_;push_cast -dsimp(maxSteps:=4000000) [Tryz.ntmps116];refine wpL_loop [3,4,5,8,9,10,11,12,13,14,15,16,17,18,19,20,21,22,23,24,25,26,27,28,29,30,31,32,33] (fun z wx=>∃(i:Nat),z 8=.int .i64 i∧z 3=str (textTo s i)∧i≤s.length∧Below w.heap.size w wx) (fun z _=>s.length-(intOf (z 8)).toNat) ?_ ?_
 ·exact⟨0,rfl,rfl,Nat.zero_le _,Below.refl _ _⟩
 ·intro z wx hI;obtain⟨i,h8,h3,hi,hbx⟩:=hI;have szx:=hbx.size;push_cast -dsimp[h8,h3];refine⟨fun hlt=>?_,fun hge=>?_⟩
  ·have hg:=lt_get (l:=s) (i:=i) (by omega);obtain⟨x,hx,hxm,_,ht⟩:=hg;have hg:=(hv.below hbx).get hx;obtain⟨b,o,rfl,hnb,hcell⟩:=hg;have cx:cellsAt wx ⟨b,o+i*2,none⟩ 0 2=some [.int .i64 x.1,.int .i64 x.2]:=cellsAt_of (encR x) 0 (fun j u hu=>by simpa using hcell j u hu);have hxr:=mem_right (by omega) hr x hxm;have hgn:∃n:Nat,x.1=n:=⟨x.1.toNat,by omega⟩;obtain⟨n,hn⟩:=hgn;have hgm:∃m:Nat,x.2=m:=⟨x.2.toNat,by omega⟩;obtain⟨m,hm⟩:=hgm;have hT:=textTo_next ht (by omega);have hrg:rgP x=hexP n++(if n<m then 45::hexP m else []):=by unfold rgP;rw[hn,hm];simp
   rw[hrg]at hT;rw[hn,hm]at cx;push_cast -dsimp[cx];refine⟨⟨by omega,by omega⟩,?_⟩;refine allocK (z:=[.int .i64 0,.int .i64 0]) (by kernel_rfl) ?_;intro w3 hw3;have sz3:=hw3.size;push_cast -dsimp;refine storeAgg (n:=2) (by kernel_rfl) hw3.blk rfl (by simp) (by simp[Value.oneCell']) ?_;intro w4 hw4;have sz4:=hw4.size;have c0:w4.cell? ⟨wx.heap.size,0,none⟩=some (.int .i64 (n:Int)):=hw4.blk.cell rfl;have c1:w4.cell? ⟨wx.heap.size,1,none⟩=some (.int .i64 (m:Int)):=hw4.blk.cell rfl;have k4:Kept (fun j=>j=wx.heap.size) wx w4:=(Kept.new hw3).trans hw4.kept (fun _ _ h=>h);have hb4:Below w.heap.size w w4:=hbx.trans (k4.below szx (fun _ h=>by omega));have hTl:=textTo_len s i hi;have hL1:=hexP_len n;have hL2:=hexP_len m;have key:∀P:List UInt8,P=(if 0<i then textTo s i++[32] else [])→P.length≤20*i+1:=fun P e=>by
    rw[e];split
    ·rw[List.length_append,List.length_singleton];omega
    ·simp
   push_cast -dsimp[c0];refine⟨fun hpos=>⟨by omega,?_⟩,fun hpos=>?_⟩
   ·rw[if_pos (by omega)]at hT key;have hP:=key _ rfl;refine callK_of (fmtI_c n (by omega) w4 (h.below hb4 h.lt)) ?_;rintro _ w5 ⟨rfl,hb5⟩;have hB5:=hb4.trans (hb5.mono (show w.heap.size≤w4.heap.size by omega))
    have c5:w5.cell? ⟨wx.heap.size,0,none⟩=some (.int .i64 (n:Int)):=(hb5.cell (by show wx.heap.size<w4.heap.size;omega)).trans c0
    have c5':w5.cell? ⟨wx.heap.size,1,none⟩=some (.int .i64 (m:Int)):=(hb5.cell (by show wx.heap.size<w4.heap.size;omega)).trans c1
    push_cast -dsimp[c5,c5'];refine⟨by first|omega|(simp only[List.length_append,List.length_singleton]at hP ⊢;omega),fun hne=>?_,fun heq=>?_⟩
    ·refine callK_of (fmtI_c m (by omega) w5 (h.below hB5 h.lt)) ?_;rintro _ w6 ⟨rfl,hb6⟩;have hB6:=hB5.trans (hb6.mono hB5.size);rw[if_pos (by omega)]at hT;push_cast -dsimp;refine⟨by omega,by simp only[List.length_append,List.length_cons,List.length_nil];first|omega|(simp only[List.length_append,List.length_cons,List.length_nil]at hP;omega),⟨by omega,by omega⟩,⟨i+1,rfl,?_,by omega,hB6⟩,by rw[h8];simp only[intOf];omega⟩
     rw[hT];simp
    ·rw[if_neg (by omega)]at hT;refine⟨⟨by omega,by omega⟩,⟨i+1,rfl,?_,by omega,hB5⟩,by rw[h8];simp only[intOf];omega⟩;rw[hT];simp
   ·have hi0:i=0:=by omega
    rw[if_neg (by omega)]at hT key;have hP:=key _ rfl;have h0:textTo s i=[]:=by rw[hi0];rfl
    rw[h0];refine callK_of (fmtI_c n (by omega) w4 (h.below hb4 h.lt)) ?_;rintro _ w5 ⟨rfl,hb5⟩;have hB5:=hb4.trans (hb5.mono (show w.heap.size≤w4.heap.size by omega))
    have c5:w5.cell? ⟨wx.heap.size,0,none⟩=some (.int .i64 (n:Int)):=(hb5.cell (by show wx.heap.size<w4.heap.size;omega)).trans c0
    have c5':w5.cell? ⟨wx.heap.size,1,none⟩=some (.int .i64 (m:Int)):=(hb5.cell (by show wx.heap.size<w4.heap.size;omega)).trans c1
    push_cast -dsimp[c5,c5'];refine⟨by first|omega|(simp only[List.length_append,List.length_singleton]at hP ⊢;omega),fun hne=>?_,fun heq=>?_⟩
    ·refine callK_of (fmtI_c m (by omega) w5 (h.below hB5 h.lt)) ?_;rintro _ w6 ⟨rfl,hb6⟩;have hB6:=hB5.trans (hb6.mono hB5.size);rw[if_pos (by omega)]at hT;push_cast -dsimp;refine⟨by omega,by simp only[List.length_append,List.length_cons,List.length_nil];first|omega|(simp only[List.length_append,List.length_cons,List.length_nil]at hP;omega),⟨by omega,by omega⟩,⟨i+1,rfl,?_,by omega,hB6⟩,by rw[h8];simp only[intOf];omega⟩
     rw[hT];simp
    ·rw[if_neg (by omega)]at hT;refine⟨⟨by omega,by omega⟩,⟨i+1,rfl,?_,by omega,hB5⟩,by rw[h8];simp only[intOf];omega⟩;rw[hT];simp
  ·have hin:i=s.length:=by omega
   have hTl:=textTo_len s i hi;refine⟨by omega,by simp only[List.length_append,List.length_singleton];omega,?_,hbx⟩;unfold textTo printP;rw[hin,List.take_length];simp
end Go.Proofs.YtodeeahdhnjpkaaGreatDoor
end
section
namespace Go.Proofs.YtodeeahdhnjpkaaGreatDoor
open Go.Vc Go.Proofs Go.RowKit Cae
attribute [local irreducible] wpL callK valK unitK runK Fun Sl Vc.Own vc vcOps opK pureK
def ParseRR (B:Nat)(s:List UInt8)(r:Value)(w:World):Prop :=
 (∃v l,r=.tuple #[v,.int .i64 0]∧Vc.Own B 104 2 encR w v l∧PrintOf s l)∨(r=.tuple #[.slice none 0 0,.int .i64 3]∧∀l,¬PrintOf s l)
theorem parseSetR_c (s:List UInt8)(hs:s.length≤1000000)(w:World)(hd:Db w)(he:SErrs w)(ht:Tv w):Fun Tryz.prog 83 [str s] w fun r w'=>ParseRR w.heap.size s r w'∧Below w.heap.size w w':=by
 refine fun_of_vc Tryz.func83 rfl (by kernel_rfl) [2,3] rfl ?_;push_cast -dsimp(maxSteps:=4000000) [Tryz.ntmps83];refine callK_of (trim_c s (by omega) w) ?_;rintro _ w1 ⟨rfl,hb1⟩;have sz1:=hb1.size;have hlt:=trimS_len s [91,93];push_cast -dsimp;refine callK_of (fields_c (Lib.trimS s [91,93]) (by omega) w1 (ht.below hb1)) ?_;rintro fv w2 ⟨ho2,hb2⟩;have sz2:=hb2.size;have hbw2:=hb1.trans (hb2.mono sz1);have hF:∃F,Lib.fieldsD (Lib.trimS s [91,93])=F:=⟨_,rfl⟩;obtain⟨F,hF⟩:=hF;have hFn:=fieldsD_count (Lib.trimS s [91,93]);have hFs:∀x∈F,x.length≤s.length:=fun x hx=>by rw[←hF]at hx;have:=fieldsD_size hx;omega
 have hPF:∀l,PrintOf s l→F=l.map rgP:=fun l hl=>by rw[←hF,←hl.2,trim_body hl.1,fields_body hl.1]
 rw[hF]at ho2 hFn;have hsh:=ho2.slice;obtain⟨fa,fc,rfl⟩:=hsh;have hsl:=ho2.sl;push_cast -dsimp;refine wpL_loop [2,3,4,6,7,8,9,10,11,16,17,18,19,20,21,22,23,24,25,26,27,28,29,30,31,32,33,34,35,36,37,38,39,40,41,42,43,44,45,46,47,48,49,50,51] (fun z wx=>∃(i:Nat) (ov:Value) (out:List Rg),z 16=.int .i64 i∧z 4=ov∧i≤F.length∧out.length=i∧(∀l,PrintOf s l→out=l.take i)∧Vc.Own w2.heap.size 104 2 encR wx ov out∧Below w2.heap.size w2 wx) (fun z _=>F.length-(intOf (z 16)).toNat) ?_ ?_
 ·exact⟨0,_,[],rfl,rfl,Nat.zero_le _,rfl,fun l _=>by simp,Vc.Own.nil (enc:=encR) _ _ (fun _=>rfl) _,Below.refl _ _⟩
 ·intro z wx hI;obtain⟨i,ov,out,h16,h4,hi,hol,hout,hox,hbx⟩:=hI;have szx:=hbx.size;have hbwx:=hbw2.trans (hbx.mono (by omega));push_cast -dsimp[h16,h4];refine⟨fun hlt2=>?_,fun hge=>?_⟩
  ·have hg:=lt_get (l:=F) (i:=i) (by omega);obtain⟨t,htt,htm,_,hFt⟩:=hg;have hts:=hFs t htm;have hg:=(hsl.below hbx).get htt;obtain⟨b,o,rfl,_,hcell⟩:=hg;have c0:wx.cell? ⟨b,o+i,none⟩=some (str t):=by simpa[Vc.encS] using hcell 0 _ rfl
   have et:t++[45]++t=t++45::t:=by simp
   have hpc:=pieces_two t;obtain⟨a,b',r',hpc,hal,hbl⟩:=hpc;have hkey:∀l,PrintOf s l→∃q,l[i]?=some q∧(0≤q.1∧q.1≤q.2∧q.2≤1114111)∧a=hexP q.1.toNat∧b'=hexP q.2.toNat:=fun l hl=>by
    have h1:=hPF l hl;rw[h1,List.getElem?_map]at htt;obtain⟨q,hq,hqt⟩:=Option.map_eq_some_iff.1 htt;have hr:=mem_right (by omega) hl.1 q (List.mem_of_getElem? hq);have hm:=pieces_rg (r:=q) (by omega) (by omega) (by omega) hr.2.1;obtain⟨m,hm⟩:=hm;rw[hqt,hpc]at hm;simp only[List.cons.injEq]at hm;exact⟨q,hq,hr,hm.1,hm.2.1⟩
   push_cast -dsimp[c0,et];refine⟨⟨by omega,by omega⟩,by omega,by simp only[List.length_append,List.length_cons,List.length_nil];omega,?_⟩;refine callK_of (splitN_c t (by omega) wx (ht.below hbwx)) ?_;rintro wv w3 ⟨hs3,hb3⟩;have sz3:=hb3.size;have hbw3:=hbwx.trans (hb3.mono hbwx.size);rw[hpc]at hs3;have hsh:=hs3.shape;obtain⟨pa,pc,rfl,_⟩:=hsh;have hg:=hs3.get (i:=0) rfl;obtain⟨pb,po,rfl,_,hc0⟩:=hg;have hg:=hs3.get (i:=1) rfl;obtain⟨_,_,hee,_,hc1⟩:=hg;cases hee;have ca:w3.cell? ⟨pb,po,none⟩=some (str a):=by simpa[Vc.encS] using hc0 0 _ rfl
   have cb:w3.cell? ⟨pb,po+1,none⟩=some (str b'):=by simpa[Vc.encS] using hc1 0 _ rfl
   have hpl:(a::b'::r').length=r'.length+2:=rfl;rw[hpl];push_cast -dsimp[ca];refine⟨by omega,?_⟩;refine callK_of (parseInt_c 40 (.inr rfl) a (by omega) w3 (he.below hbw3)) ?_;rintro _ w4 ⟨⟨v1,e1,rfl,he1,hx1⟩,hb4⟩;have sz4:=hb4.size;have hbw4:=hbw3.trans (hb4.mono hbw3.size);have cb4:w4.cell? ⟨pb,po+1,none⟩=some (str b'):=(hb4.cell (World.block_lt_of_cell? _ _ cb)).trans cb;have et1:Int.toNat 1=1:=rfl;push_cast -dsimp[cb4,et1];refine⟨by omega,?_⟩;refine callK_of (parseInt_c 40 (.inr rfl) b' (by omega) w4 (he.below hbw4)) ?_;rintro _ w5 ⟨⟨v2,e2,rfl,he2,hx2⟩,hb5⟩;have sz5:=hb5.size;have hbw5:=hbw4.trans (hb5.mono hbw4.size);have bad1:(∃ty x,e1=.iface ty x)→∀l,¬PrintOf s l:=fun h l hl=>by
    obtain⟨ty,x,rfl⟩:=h;obtain⟨q,_,hr,ha,_⟩:=hkey l hl
    have:=(hx1 q.1.toNat (by omega) ha).2;cases this
   have bad2:(∃ty x,e2=.iface ty x)→∀l,¬PrintOf s l:=fun h l hl=>by
    obtain⟨ty,x,rfl⟩:=h;obtain⟨q,_,hr,_,hb⟩:=hkey l hl
    have:=(hx2 q.2.toNat (by omega) hb).2;cases this
   rcases he1 with rfl|he1
   ·rcases he2 with rfl|he2
    ·have hb35:Below w2.heap.size wx w5:=(hb3.mono szx).trans ((hb4.mono (by omega)).trans (hb5.mono (by omega)));have ho5:=hox.below (hb3.trans ((hb4.mono (by omega)).trans (hb5.mono (by omega))));have hsh:=ho5.slice;obtain⟨oa,oc,rfl⟩:=hsh;push_cast -dsimp;refine rowK elI_44 rfl rfl (by omega) ?_;intro w7 hw7;have sz7:=hw7.size;have ho7:=ho5.new hw7;push_cast -dsimp;refine appendK2 (base:=w2.heap.size) [(v1,v2)] (enc:=encR) elI_44 ho7 (by rfl) (fun j u hu=>by simpa[encR] using hw7.cell hu) encR_one (by simp only[List.length_cons,List.length_nil];omega) (by omega) ?_;intro v8 w8 ho8 hg8 _;have k8:=Kept.grown hg8 (fun _ h=>h);have hbx8:Below w2.heap.size w2 w8:=(hbx.trans (hb35.trans (hw7.below.mono (by omega)))).trans (k8.below (by omega) (fun j h=>(ho7.block j h).1));push_cast -dsimp;refine⟨⟨by omega,by omega⟩,⟨i+1,_,_,rfl,rfl,by omega,by simp;exact hol,fun l hl=>?_,ho8,hbx8⟩,by rw[h16];simp only[intOf];omega⟩;obtain⟨q,hq,hr,ha,hb⟩:=hkey l hl;have h1:=(hx1 q.1.toNat (by omega) ha).1;have h2:=(hx2 q.2.toNat (by omega) hb).1;have eq:(v1,v2)=q:=by
      rw[h1,h2];obtain⟨x,y⟩:=q;simp only at hr ⊢
      rw[Int.toNat_of_nonneg (by omega),Int.toNat_of_nonneg (by omega)]
     rw[hout l hl,List.take_add_one,hq,eq];rfl
    ·obtain⟨ty,x,rfl⟩:=he2;push_cast -dsimp;exact⟨.inr ⟨rfl,bad2 ⟨_,_,rfl⟩⟩,hbw5⟩
   ·obtain⟨ty,x,rfl⟩:=he1;push_cast -dsimp;exact⟨.inr ⟨rfl,bad1 ⟨_,_,rfl⟩⟩,hbw5⟩
  ·have hall:∀l,PrintOf s l→out=l:=fun l hl=>by
    have h1:=congrArg List.length (hPF l hl);rw[List.length_map]at h1;rw[hout l hl,List.take_of_length_le (by omega)]
   have hsh:=hox.slice;obtain⟨oa,oc,rfl⟩:=hsh;refine callK_of (rightSetR_c out (by omega) _ _ wx hox.sl) ?_;rintro _ w3 ⟨rfl,hb3⟩;have sz3:=hb3.size;have hbw3:=hbwx.trans (hb3.mono hbwx.size);have ho3:=hox.below hb3;cases hr:setRight (-2) out with
   | false =>
    push_cast -dsimp;exact⟨.inr ⟨rfl,fun l hl=>by have:=hall l hl;subst this;rw[hl.1]at hr;cases hr⟩,hbw3⟩
   | true =>
    push_cast -dsimp;refine callK_of (setTextR_c out (by omega) hr _ _ w3 ho3.sl (hd.below hbw3 hd.lt)) ?_;rintro _ w4 ⟨rfl,hb4⟩;have hbw4:=hbw3.trans (hb4.mono hbw3.size);push_cast -dsimp;refine⟨fun hne=>?_,fun heq=>?_⟩
    ·exact⟨.inr ⟨rfl,fun l hl=>by have:=hall l hl;subst this;exact hne hl.2⟩,hbw4⟩
    ·exact⟨.inl ⟨_,out,rfl,(ho3.below hb4).mono (by omega),hr,Classical.not_not.1 heq⟩,hbw4⟩
theorem blkSome {w:World}{b n:Nat}{e:TypeId}{cs xs:List Value}(h:Blk w b e cs)(o:Nat)(hx:(cs.drop o).take n=xs)(hn:xs.length=n):cellsAt w ⟨b,o,none⟩ 0 n=some xs:=by
 subst hn;refine cellsAt_of xs 0 fun j u hu=>?_;rw[Nat.zero_add];refine h.cell ?_;rw[←hx]at hu
 have:=(List.getElem?_eq_some_iff.1 hu).1;rw[List.length_take]at this;rw[List.getElem?_take_of_lt (by omega),List.getElem?_drop]at hu;exact hu
end Go.Proofs.YtodeeahdhnjpkaaGreatDoor
end
section
namespace Cae
def noMark (s:List UInt8):Prop:=s≠[124]∧s≠[38]∧s≠[45]
def okB:Option (Nat×Nat)→Bool
 | none=>true
 | some _=>false
theorem okB_none:okB none=true:=rfl
theorem okB_some (e:Nat×Nat):okB (some e)=false:=rfl
attribute [push_cast] okB_none okB_some
def outP {α:Type}(bad:Option (Nat×Nat))(p:Pa α)(l:List Cae.Tok):Except (Nat×Nat) (α×List Cae.Tok):=match bad with
 | none=>p l
 | some e=>.error e
end Cae
namespace Go.Proofs.YtodeeahdhnjpkaaGreatDoor
open Go.Vc Go.Proofs Go.RowKit Cae
attribute [local irreducible] wpL callK valK unitK runK Fun Sl Vc.Own vc vcOps opK pureK
theorem below_drewR (w:World):Below w.heap.size w w.drew:=((Kept.refl (fun _=>False) w).drew).below (Nat.le_refl _) (fun _ h=>h.elim)
structure Gr (w:World):Prop where
 d:Db w
 e:SErrs w
 t:Tv w
 f0:w.cell? ⟨0,0,none⟩=some (.int .i64 0)
 f1:w.cell? ⟨0,1,none⟩=some (.int .i64 (-1))
theorem Gr.below {w w':World}(h:Gr w)(hb:Below w.heap.size w w'):Gr w' :=
 ⟨h.d.below hb h.d.lt,h.e.below hb,h.t.below hb,(hb.cell (World.block_lt_of_cell? w _ h.f0)).trans h.f0,(hb.cell (World.block_lt_of_cell? w _ h.f1)).trans h.f1⟩
def badV:Option (Nat×Nat)→List Value
 | none=>[.int .i64 0,.int .i64 (-1)]
 | some e=>[.int .i64 (e.1:Int),.int .i64 (e.2:Int)]
structure RS (rb B:Nat)(w:World)(l:List Cae.Tok)(bad:Option (Nat×Nat)):Prop where
 st:∃v,Blk w rb 68 (v::badV bad)∧Sl (fun b=>b=rb∨B≤b) 3 (En encTok) w v l
 lt:rb<B
 le:B≤w.heap.size
 tl:TL l
 tm:∀t∈l,t.kind≠4→noMark t.text
 g0:∃w0,Gr w0∧w0.heap.size≤rb∧Below w0.heap.size w0 w
 ne:∀e,bad=some e→e.1≠0
theorem RS.gr {rb B:Nat}{w:World}{l:List Cae.Tok}{bad:Option (Nat×Nat)}(h:RS rb B w l bad):Gr w:=by
 obtain⟨w0,hg,_,hb⟩:=h.g0;exact hg.below hb
theorem RS.keptB {rb B:Nat}{w w':World}{l:List Cae.Tok}{bad:Option (Nat×Nat)}{Y:Nat→Prop}(h:RS rb B w l bad)(hk:Kept Y w w')(hY:∀i,Y i→B≤i):RS rb B w' l bad:=by
 obtain⟨v,h1,h2⟩:=h.st;have hl:=h.lt;obtain⟨w0,hg,h0,hb⟩:=h.g0;have hle:=h.le;have hz:=hk.size;have hbz:=hb.size;exact⟨⟨v,h1.kept hk (fun hh=>by have:=hY _ hh;omega),h2.kept hk (fun i hi=>.inr (hY i hi))⟩,h.lt,by omega,h.tl,h.tm,⟨w0,hg,h0,hb.trans (hk.below (by omega) (fun i hi=>by have:=hY i hi;omega))⟩,h.ne⟩
theorem RS.below {rb B:Nat}{w w':World}{l:List Cae.Tok}{bad:Option (Nat×Nat)}(h:RS rb B w l bad)(hk:Below w.heap.size w w'):RS rb B w' l bad :=
 h.keptB (Kept.of_below hk (X:=fun i=>w.heap.size≤i) (fun i h1 h2=>h1)) (fun i hi=>Nat.le_trans h.le hi)
theorem RS.hd {rb B:Nat}{w:World}{t:Cae.Tok}{r:List Cae.Tok}{bad:Option (Nat×Nat)}(h:RS rb B w (t::r) bad):∃b o c,Blk w rb 68 (.slice (some ⟨b,o,none⟩) (r.length+1) c::badV bad)∧r.length+1≤c∧b≠rb ∧
  w.cell? ⟨b,o,none⟩=some (.int .i64 t.kind)∧w.cell? ⟨b,o+1,none⟩=some (str t.text)∧w.cell? ⟨b,o+2,none⟩=some (.int .i64 t.pos)∧cellsAt w ⟨b,o,none⟩ 0 3=some [.int .i64 t.kind,str t.text,.int .i64 t.pos]:=by
 obtain⟨v,h1,h2⟩:=h.st;obtain⟨a,c,rfl,hc⟩:=h2.shape;obtain⟨b,o,rfl,hb,hcell⟩:=h2.get (i:=0) (x:=t) rfl;refine⟨b,o,c,h1,hc,fun e=>hb (.inl e),?_,?_,?_,cellsAt_of (encTok t) 0 (fun j u hu=>by have:=hcell j u hu;simpa using this)⟩
 ·have:=hcell 0 _ rfl;simpa using this
 ·have:=hcell 1 _ rfl;simpa using this
 ·have:=hcell 2 _ rfl;simpa using this
theorem RS.cons {rb B:Nat}{w:World}{l:List Cae.Tok}{bad:Option (Nat×Nat)}(h:RS rb B w l bad):∃t r,l=t::r:=h.tl.cons
theorem RS.fault {rb B:Nat}{w w':World}{l:List Cae.Tok}{bad bad':Option (Nat×Nat)}{v:Value}(h:RS rb B w l bad)(hv:Blk w rb 68 (v::badV bad))(hp:Put w w' rb 68 (v::badV bad'))(hn:∀e,bad'=some e→e.1≠0):RS rb B w' l bad':=by
 obtain⟨u,h1,h2⟩:=h.st;have e:u=v:=by
  have h1':w.heap[rb]?=_:=h1;have hv':w.heap[rb]?=_:=hv;rw[h1']at hv';simp at hv';exact hv'
 subst e;obtain⟨w0,hg,h0,hb⟩:=h.g0;have hl:=h.lt;have hle:=h.le;have hbz:=hb.size;exact⟨⟨_,hp.blk,h2.kept hp.kept (fun i hi=>.inl hi)⟩,h.lt,by rw[hp.size];exact h.le,h.tl,h.tm,⟨w0,hg,h0,hb.trans (hp.kept.below (by omega) (fun i hi=>by omega))⟩,hn⟩
theorem RS.pop {rb B b o c:Nat}{w w':World}{t:Cae.Tok}{r:List Cae.Tok}{bad:Option (Nat×Nat)}(h:RS rb B w (t::r) bad)(hb:Blk w rb 68 (.slice (some ⟨b,o,none⟩) (r.length+1) c::badV bad))(h5:t.kind≠5)
  (hp:Put w w' rb 68 (.slice (if (c:Int)=1 then some ⟨b,o,none⟩ else some ⟨b,o+3,none⟩) r.length (c-1)::badV bad)):RS rb B w' r bad:=by
 have hl:=h.lt;have htl:=h.tl.tail h5;obtain⟨t2,r2,rfl⟩:=htl.cons;obtain⟨v,h1,h2⟩:=h.st;have e:v=.slice (some ⟨b,o,none⟩) ((t2::r2).length+1) c:=by
  have h1':w.heap[rb]?=_:=h1;have hb':w.heap[rb]?=_:=hb;rw[h1']at hb';simp at hb';exact hb'
 subst e;have hk:=hp.kept;have hc:(t2::r2).length+1≤c:=by
  obtain⟨a,c',he,hc⟩:=h2.shape;cases he;exact hc
 have hc1:¬(c:Int)=1:=by rw[List.length_cons]at hc;omega
 have hpb:=hp.blk;rw[if_neg hc1]at hpb;obtain⟨w0,hg,h0,hbw⟩:=h.g0;have hle:=h.le;have hbz:=hbw.size;refine⟨⟨_,hpb,?_⟩,h.lt,by rw[hp.size];exact h.le,htl,fun x hx=>h.tm x (List.mem_cons_of_mem _ hx),⟨w0,hg,h0,hbw.trans (hk.below (by omega) (fun i hi=>by omega))⟩,h.ne⟩;unfold Sl at h2 ⊢
 obtain⟨a,c',he,hc',hall⟩:=h2;cases he;refine⟨some ⟨b,o+3,none⟩,c-1,rfl,by omega,fun i x hx=>?_⟩;obtain⟨b',o',cs,ha,hX,hcs,hcell,hr⟩:=hall (i+1) x (by simpa using hx);cases ha;refine⟨b,o+3,cs,rfl,hX,hcs,fun j u hu=>?_,hr⟩
 have:=hcell j u hu;rw[show o+(i+1)*3+j=o+3+i*3+j by omega]at this
 exact hk.cell this (fun hh=>hX (.inl hh))
def RRes {α:Type}(rb B:Nat)(w:World)(o:Except (Nat×Nat) (α×List Cae.Tok))(V:World→Value→α→Prop)(J:Value→Prop):VK:=fun r w'=>Kept (·=rb) w w'∧match o with
 | .ok (x,l')=>V w' r x∧RS rb B w' l' none
 | .error e=>J r∧∃l',RS rb B w' l' (some e)
def Rc {α:Type}(f:FuncId)(args:List Value)(rb B:Nat)(w:World)(l:List Cae.Tok)(bad:Option (Nat×Nat))(p:Pa α)(V:World→Value→α→Prop)(J:Value→Prop):Prop:=Fun Tryz.prog f args w (RRes rb B w (outP bad p l) V J)
section
variable {rb B:Nat} {w:World} {l:List Cae.Tok} {bad:Option (Nat×Nat)} (h:RS rb B w l bad)
include h
theorem rok_c:Fun Tryz.prog 26 [.pointer (some ⟨rb,0,none⟩)] w fun r w'=>r=.bool (okB bad)∧Below w.heap.size w w':=by
 have hg:=h.gr;obtain⟨v,hB,_⟩:=h.st;have hne:=h.ne;have f2:cellsAt w ⟨0,0,none⟩ 0 2=some [.int .i64 0,.int .i64 (-1)]:=cellsAt_of [.int .i64 0,.int .i64 (-1)] 0 (fun j u hu=>by
  rw[Nat.zero_add,Nat.zero_add];match j,hu with
  | 0,hu=>cases hu;exact hg.f0
  | 1,hu=>cases hu;exact hg.f1
  | j+2,hu=>cases hu)
 have d2:cellsAt w.drew ⟨0,0,none⟩ 0 2=some [.int .i64 0,.int .i64 (-1)]:=f2;refine fun_of_vc Tryz.func26 rfl (by kernel_rfl) [2] rfl ?_;push_cast -dsimp(maxSteps:=4000000) [Tryz.ntmps26];refine wpL_draw (fun w'=>w'=w.drew) mixed (by kernel_rfl) rfl ?_;cases bad with
 | none =>
  have cb:cellsAt w.drew ⟨rb,1,none⟩ 0 2=some [.int .i64 0,.int .i64 (-1)]:=blkSome (n:=2) hB.drew 1 rfl rfl;push_cast -dsimp[cb,d2];refine⟨fun w'' hC=>by rw[hC,cb];exact rfl,fun w'' hC=>by rw[hC,d2];exact rfl,?_⟩;exact below_drewR w
 | some e =>
  obtain⟨c,q⟩:=e;have hc:c≠0:=hne _ rfl;have cb:cellsAt w.drew ⟨rb,1,none⟩ 0 2=some [.int .i64 (c:Int),.int .i64 (q:Int)]:=blkSome (n:=2) hB.drew 1 rfl rfl;push_cast -dsimp[cb,d2];refine⟨fun w'' hC=>by rw[hC,cb];exact rfl,fun w'' hC=>by rw[hC,d2];exact rfl,?_,below_drewR w⟩;simp
theorem rsee_c (s:List UInt8):Fun Tryz.prog 22 [.pointer (some ⟨rb,0,none⟩),str s] w fun r w'=>r=.bool (okB bad && seeP s l)∧Below w.heap.size w w':=by
 obtain⟨t,r,rfl⟩:=h.cons;have hs:seeP s (t::r)=(t.kind != 5 && t.text == s):=rfl;refine fun_of_vc Tryz.func22 rfl (by kernel_rfl) [4] rfl ?_;push_cast -dsimp(maxSteps:=4000000) [Tryz.ntmps22];refine callK_of (rok_c h) ?_;rintro _ w1 ⟨rfl,hb1⟩;cases bad with
 | some e =>
  push_cast -dsimp;exact⟨rfl,hb1⟩
 | none =>
  have h1:=h.below hb1;obtain⟨b,o,c,hB,hc,hne,c0,c1,c2,c3⟩:=h1.hd;have cb:w1.cell? ⟨rb,0,none⟩=some (.slice (some ⟨b,o,none⟩) (r.length+1) c):=hB.cell rfl;rw[hs];push_cast -dsimp[cb,c0,c1];refine⟨by omega,fun h5=>⟨by omega,?_⟩,fun h5=>?_⟩
  ·have h5':t.kind≠5:=fun e=>h5 (by omega);refine⟨?_,hb1⟩;congr 1;by_cases he:t.text=s<;>simp[he,h5']
  ·have h5':t.kind=5:=by omega
   refine⟨?_,hb1⟩;simp[h5']
theorem rfails_c (e:Nat)(he:e≠0):Fun Tryz.prog 23 [.pointer (some ⟨rb,0,none⟩),.int .i64 (e:Int)] w fun r w'=>r=.tuple #[]∧RS rb B w' l (some (bad.getD (e,(Cae.hd l).pos)))∧Kept (·=rb) w w':=by
 obtain⟨t,r,rfl⟩:=h.cons;refine fun_of_vc Tryz.func23 rfl (by kernel_rfl) [] rfl ?_;push_cast -dsimp(maxSteps:=4000000) [Tryz.ntmps23];refine callK_of (rok_c h) ?_;rintro _ w1 ⟨rfl,hb1⟩;have h1:=h.below hb1;have k1:Kept (·=rb) w w1:=Kept.of_below hb1 (fun i h1 h2=>by omega);cases bad with
 | some e =>
  push_cast -dsimp;exact⟨h1,k1⟩
 | none =>
  obtain⟨b,o,c,hB,hc,hne,c0,c1,c2,c3⟩:=h1.hd;have cb:w1.cell? ⟨rb,0,none⟩=some (.slice (some ⟨b,o,none⟩) (r.length+1) c):=hB.cell rfl;push_cast -dsimp[cb,c2];refine⟨by omega,?_⟩;refine storeAgg (n:=2) (by kernel_rfl) hB rfl (by simp[badV]) (by simp[Value.oneCell']) ?_;intro w2 hw2;have hw2:Put w1 w2 rb 68 (.slice (some ⟨b,o,none⟩) (r.length+1) c::badV (some (e,t.pos))):=hw2;push_cast -dsimp;exact⟨h1.fault hB hw2 (fun e' h'=>by cases h';exact he),k1.trans hw2.kept (fun i _ h=>h)⟩
def RTook (s:List UInt8)(rb B:Nat)(w:World)(l:List Cae.Tok)(bad:Option (Nat×Nat)):VK:=fun r w' =>
 (bad=none∧seeP s l=true∧r=.bool true∧∃t r',l=t::r'∧t.kind≠5∧RS rb B w' r' none∧Kept (·=rb) w w')∨((okB bad && seeP s l)=false∧r=.bool false∧RS rb B w' l bad∧Below w.heap.size w w')
theorem rtake_c (s:List UInt8):Fun Tryz.prog 29 [.pointer (some ⟨rb,0,none⟩),str s] w (RTook s rb B w l bad):=by
 refine fun_of_vc Tryz.func29 rfl (by kernel_rfl) [4] rfl ?_;push_cast -dsimp(maxSteps:=4000000) [Tryz.ntmps29];refine callK_of (rsee_c h s) ?_;rintro _ w1 ⟨rfl,hb1⟩;have h1:=h.below hb1;have k1:Kept (·=rb) w w1:=Kept.of_below hb1 (fun i h1 h2=>by omega);cases hs:(okB bad && seeP s l) with
 | false =>
  push_cast -dsimp;exact .inr ⟨hs,rfl,h1,hb1⟩
 | true =>
  obtain⟨t,r,rfl⟩:=h.cons;rw[Bool.and_eq_true]at hs;obtain⟨hn,hs⟩:=hs;obtain rfl:bad=none:=by cases bad with
   | none=>rfl
   | some e=>cases hn
  have h5:=seeP_kind hs;obtain⟨b,o,c,hB,hc,hne,c0,c1,c2,c3⟩:=h1.hd;have cb:w1.cell? ⟨rb,0,none⟩=some (.slice (some ⟨b,o,none⟩) (r.length+1) c):=hB.cell rfl;push_cast -dsimp[cb,slice1];refine⟨by omega,?_⟩;refine storeK_of hB (by simp) rfl ?_;intro w2 hw2;have hps:=h1.pop hB h5 hw2;have hk:=hw2.kept;push_cast -dsimp;exact .inl ⟨rfl,hs,rfl,t,r,rfl,h5,hps,k1.trans hk (fun i _ h=>h)⟩
theorem rmust_c (s:List UInt8):Rc 24 [.pointer (some ⟨rb,0,none⟩),str s] rb B w l bad (mustP s) (fun _ r _=>r=.tuple #[]) (fun r=>r=.tuple #[]):=by
 refine fun_of_vc Tryz.func24 rfl (by kernel_rfl) [] rfl ?_;push_cast -dsimp(maxSteps:=4000000) [Tryz.ntmps24];refine callK_of (rtake_c h s) ?_;rintro _ w1 hT;unfold RRes;rcases hT with ⟨rfl,hs,rfl,t,r,rfl,h5,hps,hk⟩|⟨hs,rfl,h1,hb1⟩
 ·push_cast -dsimp;refine⟨hk,?_⟩;have e:outP none (mustP s) (t::r)=.ok ((),r):=by unfold outP mustP pif;rw[hs];exact popP_cons h5
  rw[e];exact hps
 ·have k1:Kept (·=rb) w w1:=Kept.of_below hb1 (fun i h1 h2=>by omega);push_cast -dsimp;refine callK_of (rfails_c h1 3 (by decide)) ?_;rintro _ w2 ⟨rfl,h2,k2⟩;push_cast -dsimp;refine⟨k1.trans k2 (fun i _ h=>h),?_⟩;have e:outP bad (mustP s) l=.error (bad.getD (3,(Cae.hd l).pos)):=by
   cases bad with
   | none=>unfold outP mustP pif;rw[show seeP s l=false from hs];rfl
   | some e=>rfl
  rw[e];exact⟨l,h2⟩
theorem risName_c:Fun Tryz.prog 50 [.pointer (some ⟨rb,0,none⟩)] w fun r w'=>r=.bool (namedP l)∧Below w.heap.size w w':=by
 obtain⟨t,r,rfl⟩:=h.cons;obtain⟨b,o,c,hB,hc,hne,c0,c1,c2,c3⟩:=h.hd;have cb:w.cell? ⟨rb,0,none⟩=some (.slice (some ⟨b,o,none⟩) (r.length+1) c):=hB.cell rfl;have hn:namedP (t::r)=(t.kind == 1 && !keptP t.text):=rfl;refine fun_of_vc Tryz.func50 rfl (by kernel_rfl) [2] rfl ?_;push_cast -dsimp(maxSteps:=4000000) [Tryz.ntmps50];push_cast -dsimp[cb,Nat.zero_mul,Nat.add_zero,c3];refine⟨by omega,?_⟩;refine allocK (z:=[.int .i64 0,str [],.int .i64 0]) (by kernel_rfl) ?_;intro w1 hw1;have z1:=hw1.size;push_cast -dsimp;refine storeAgg (xt:=71) (n:=3) (by kernel_rfl) hw1.blk rfl (by decide) (by simp;exact⟨rfl,rfl,rfl⟩) ?_;intro w2 hw2;have B2:Blk w2 w.heap.size 71 [.int .i64 t.kind,str t.text,.int .i64 t.pos]:=hw2.blk;have b2:=hw1.below.trans (hw2.kept.below (B:=w.heap.size) (by omega) (fun i h=>by omega));have d0:w2.cell? ⟨w.heap.size,0,none⟩=some (.int .i64 t.kind):=B2.cell rfl;have d1:w2.cell? ⟨w.heap.size,1,none⟩=some (str t.text):=B2.cell rfl;push_cast -dsimp[d0,d1];have hN:namedP (t::r)=true↔t.kind=1∧¬t.text=[99,108,97,115,115]∧¬t.text=[98,114,101,97,107]∧¬t.text=[107,101,101,112]∧¬t.text=[101,108,115,101]:=by
  rw[hn];simp[keptP,and_assoc]
 have eB:∀x:Bool,(x=true↔t.kind=1∧¬t.text=[99,108,97,115,115]∧¬t.text=[98,114,101,97,107]∧¬t.text=[107,101,101,112]∧¬t.text=[101,108,115,101])→Value.bool x=Value.bool (namedP (t::r)):=fun x h=>congrArg _ (Bool.eq_iff_iff.2 (h.trans hN.symm));refine⟨fun k=>⟨fun c1=>⟨fun c2=>⟨fun c3=>⟨eB _ ?_,b2⟩,fun c3=>⟨eB _ ?_,b2⟩⟩,fun c2=>⟨eB _ ?_,b2⟩⟩,fun c1=>⟨eB _ ?_,b2⟩⟩,fun k=>⟨eB _ ?_,b2⟩⟩
 ·rw[decide_eq_true_iff];exact⟨fun h=>⟨by omega,c1,c2,c3,h⟩,fun h=>h.2.2.2.2⟩
 ·exact⟨fun h=>(by cases h),fun h=>(c3 h.2.2.2.1).elim⟩
 ·exact⟨fun h=>(by cases h),fun h=>(c2 h.2.2.1).elim⟩
 ·exact⟨fun h=>(by cases h),fun h=>(c1 h.2.1).elim⟩
 ·exact⟨fun h=>(by cases h),fun h=>by omega⟩
end
end Go.Proofs.YtodeeahdhnjpkaaGreatDoor
end
section
namespace Go.Proofs.YtodeeahdhnjpkaaGreatDoor
open Go.Vc Go.Proofs Go.RowKit
open Go.RowKit Go.Extern.Stop Go.Stop Go.Extern
def ErrVar (w:World):Prop:=w.cell? ⟨3,0,none⟩=some (.iface 232 (.agg #[.pointer (some ⟨14,32,none⟩)]))
theorem valueOfPE (a:Addr)(w:World):(ReflectliteValue.unpack (.iface 154 (.pointer (some a)))).run Tryz.prog w
  = .ok (.agg #[.pointer (some ⟨14,154,none⟩),.pointer (some ⟨w.heap.size,0,none⟩),.int .u64 150]) (w.alloc (.cells #[.pointer (some a)] 154)):=by kernel_rfl
theorem typePE (a:Addr)(w:World):(ReflectliteValue.methodAny (ReflectliteValue.valueError "reflectlite.Value.Type" 0) (fun t _ _ _=>ReflectliteType.toType t) #[.agg #[.pointer (some ⟨14,154,none⟩),.pointer (some a),.int .u64 150]]).run Tryz.prog w
  = .ok (.iface 232 (.agg #[.pointer (some ⟨14,154,none⟩)])) w:=by kernel_rfl
theorem mKind (h:Value)(w:World):(Go.method (Tryz.prog.types.size+Made.depth) 232 (.agg #[h]) "Kind").run Tryz.prog w=.ok (258,h) w:=by kernel_rfl
theorem mElem (h:Value)(w:World):(Go.method (Tryz.prog.types.size+Made.depth) 232 (.agg #[h]) "Elem").run Tryz.prog w=.ok (270,.agg #[h]) w:=by kernel_rfl
theorem mImplements (h:Value)(w:World):(Go.method (Tryz.prog.types.size+Made.depth) 232 (.agg #[h]) "Implements").run Tryz.prog w=.ok (271,.agg #[h]) w:=by kernel_rfl
theorem mAssignableTo (h:Value)(w:World):(Go.method (Tryz.prog.types.size+Made.depth) 232 (.agg #[h]) "AssignableTo").run Tryz.prog w=.ok (268,.agg #[h]) w:=by kernel_rfl
theorem mUnwrap (a:Addr)(w:World):(Go.method (Tryz.prog.types.size+Made.depth) 96 (.pointer (some a)) "Unwrap").run Tryz.prog w=.ok (263,.pointer (some a)) w:=by kernel_rfl
theorem kindPE (w:World):((ReflectliteType.abiMethod fun t=>(fun a:Nat=>Value.int IntKind.u8 (a:Int)) <$> Rtype.kind t) #[.pointer (some ⟨14,154,none⟩)]).run Tryz.prog w=.ok (.int .u8 22) w:=by kernel_rfl
theorem kindE (w:World):((ReflectliteType.abiMethod fun t=>(fun a:Nat=>Value.int IntKind.u8 (a:Int)) <$> Rtype.kind t) #[.pointer (some ⟨14,26,none⟩)]).run Tryz.prog w=.ok (.int .u8 2) w:=by kernel_rfl
theorem rlm (z:Sem Value)(f:TypeId→Addr→Nat→Nat→Sem Value)(a:Addr)(W:World):(ReflectliteValue.method z f #[.agg #[.pointer (some ⟨14,154,none⟩),.pointer (some a),.int .u64 150]]).run Tryz.prog W=(f 154 a 150 22).run Tryz.prog W:=by kernel_rfl
theorem isNilPE (a p:Addr)(W:World)(ha:W.cell? a=some (.pointer (some p))) :
  (ReflectliteValue.method (ReflectliteValue.valueError "reflectlite.Value.IsNil" 0) ReflectliteValue.isNil #[.agg #[.pointer (some ⟨14,154,none⟩),.pointer (some a),.int .u64 150]]).run Tryz.prog W=.ok (.bool false) W:=by
 rw[rlm];simp[ReflectliteValue.isNil,loadVar,isAgg,underlying,Tryz.underlying154,ha,Result.andThen]
theorem elemPE (w:World):(ReflectliteType.method ReflectliteType.elem #[.agg #[.pointer (some ⟨14,154,none⟩)]]).run Tryz.prog w=.ok (.iface 232 (.agg #[.pointer (some ⟨14,26,none⟩)])) w:=by kernel_rfl
theorem implementsE (w:World):(ReflectliteType.relation "Implements" ReflectliteType.implements_ #[.agg #[.pointer (some ⟨14,26,none⟩)],.iface 232 (.agg #[.pointer (some ⟨14,32,none⟩)])]).run Tryz.prog w=.ok (.bool true) w:=by kernel_rfl
theorem typeOfE (v:Value)(w:World):(ReflectliteType.typeOf #[.iface 26 v]).run Tryz.prog w=.ok (.iface 232 (.agg #[.pointer (some ⟨14,26,none⟩)])) w:=by kernel_rfl
theorem typeOfA (v:Value)(w:World):(ReflectliteType.typeOf #[.iface 96 v]).run Tryz.prog w=.ok (.iface 232 (.agg #[.pointer (some ⟨14,96,none⟩)])) w:=by kernel_rfl
theorem assignE (w:World):(ReflectliteType.relation "AssignableTo" ReflectliteType.assignableTo #[.agg #[.pointer (some ⟨14,26,none⟩)],.iface 232 (.agg #[.pointer (some ⟨14,26,none⟩)])]).run Tryz.prog w=.ok (.bool true) w:=by kernel_rfl
theorem assignA (w:World):(ReflectliteType.relation "AssignableTo" ReflectliteType.assignableTo #[.agg #[.pointer (some ⟨14,96,none⟩)],.iface 232 (.agg #[.pointer (some ⟨14,26,none⟩)])]).run Tryz.prog w=.ok (.bool false) w:=by kernel_rfl
theorem valueOfE (n:Int)(w:World):(ReflectliteValue.unpack (.iface 26 (.int .i64 n))).run Tryz.prog w
  = .ok (.agg #[.pointer (some ⟨14,26,none⟩),.pointer (some ⟨w.heap.size,0,none⟩),.int .u64 130]) (w.alloc (.cells #[.int .i64 n] 26)):=by kernel_rfl
theorem elemOfPE (w:World):(Rtype.elem? 154).run Tryz.prog w=.ok (some 26) w:=by kernel_rfl
theorem mkE (p:Addr)(w:World):(ReflectliteValue.mk 26 p ReflectliteValue.flagAddr).run Tryz.prog w=.ok (.agg #[.pointer (some ⟨14,26,none⟩),.pointer (some p),.int .u64 386]) w:=by kernel_rfl
theorem elemVPE (a p:Addr)(W:World)(ha:W.cell? a=some (.pointer (some p))) :
  (ReflectliteValue.method (ReflectliteValue.valueError "reflectlite.Value.Elem" 0) ReflectliteValue.elem #[.agg #[.pointer (some ⟨14,154,none⟩),.pointer (some a),.int .u64 150]]).run Tryz.prog W
   = .ok (.agg #[.pointer (some ⟨14,26,none⟩),.pointer (some p),.int .u64 386]) W:=by
 rw[rlm];simp[ReflectliteValue.elem,loadVar,isAgg,underlying,Tryz.underlying154,ha,Result.andThen,elemOfPE,mkE]
theorem rls (ta b:Addr)(W:World):(ReflectliteValue.set #[.agg #[.pointer (some ⟨14,26,none⟩),.pointer (some ta),.int .u64 386],.agg #[.pointer (some ⟨14,26,none⟩),.pointer (some b),.int .u64 130]]).run Tryz.prog W=((loadVar 26 b >>= fun x=>storeVar 26 ta x >>= fun _=>pure (.tuple #[])):Sem Value).run Tryz.prog W:=by kernel_rfl
theorem setE (ta b:Addr)(n:Int)(old:Value)(W:World)(hb:W.cell? b=some (.int .i64 n))(ht:W.cell? ta=some old)(hf:W.frozen? ta=false) :
  (ReflectliteValue.set #[.agg #[.pointer (some ⟨14,26,none⟩),.pointer (some ta),.int .u64 386],.agg #[.pointer (some ⟨14,26,none⟩),.pointer (some b),.int .u64 130]]).run Tryz.prog W
   = .ok (.tuple #[]) (W.setCell ta (.int .i64 n)):=by
 rw[rls];simp[loadVar,isAgg,underlying,Tryz.underlying26,hb,Result.andThen,storeVar,Value.cells,storeCells,Addr.add];rw[run_store Tryz.prog W ta _ _ (by rfl)];simp[ht,hf]
end Go.Proofs.YtodeeahdhnjpkaaGreatDoor
end
section
namespace Go.Proofs.YtodeeahdhnjpkaaGreatDoor
open Go.Vc Go.Proofs Go.RowKit Cae
attribute [local irreducible] wpL callK valK unitK runK Fun Sl Vc.Own vc vcOps opK pureK
open Go.RowKit Go.Extern.Stop Go.Stop Go.Extern
theorem unwrap_c (b:Nat)(n:Int)(w:World)(hB:w.cell? ⟨b,0,none⟩=some (.int .i64 n)):Fun Tryz.prog 263 [.pointer (some ⟨b,0,none⟩)] w fun v w'=>v=.iface 26 (.int .i64 n)∧w'=w:=by
 refine fun_of_vc Tryz.func263 rfl (by kernel_rfl) [2] rfl ?_;push_cast -dsimp(maxSteps:=4000000) [Tryz.ntmps263];push_cast -dsimp[hB]
inductive IsErr (w:World):Value→Int→Prop
 | bare (n:Int):IsErr w (.iface 26 (.int .i64 n)) n
 | at_ (b:Nat) (n:Int):w.cell? ⟨b,0,none⟩=some (.int .i64 n)→IsErr w (.iface 96 (.pointer (some ⟨b,0,none⟩))) n
theorem IsErr.mono {w w':World}{v:Value}{n:Int}{X:Nat→Prop}(h:IsErr w v n)(hk:Kept X w w')(hX:∀a,v=.iface 96 (.pointer (some a))→¬X a.block):IsErr w' v n:=by
 cases h with
 | bare n=>exact .bare n
 | at_ b n hb=>exact .at_ b n (hk.cell hb (hX _ rfl))
theorem as_c (v u:Value)(n:Int)(b c:Nat)(w:World)(hv:IsErr w v n)(hB:Blk w b 26 [u])(hc:w.cell? ⟨c,0,none⟩=some (.pointer (some ⟨b,0,none⟩))) :
  Fun Tryz.prog 124 [v,.iface 154 (.pointer (some ⟨b,0,none⟩)),.agg #[.pointer (some ⟨14,154,none⟩),.pointer (some ⟨c,0,none⟩),.int .u64 150],.iface 232 (.agg #[.pointer (some ⟨14,26,none⟩)])] w
   fun r w'=>r=.bool true∧Blk w' b 26 [.int .i64 n]∧Kept (·=b) w w':=by
 refine fun_of_vc Tryz.func124 rfl (by kernel_rfl) [8] rfl ?_;push_cast -dsimp(maxSteps:=4000000) [Tryz.ntmps124];refine boxK_of ?_;intro w1 hw1;push_cast -dsimp;refine wpL_loop [0,8,9,10,11,12,14,15,16,17,18,19,20,21,22,23,24,25,26,27,28,29,30,31,32,33,34,35,36,37,38,39,40,41,42,43,44,45,46,47,48,49,50,51,52,53,54,55,56,57,58,59,60,61] (fun z wx=>IsErr wx (z 0) n∧Kept (fun _=>False) w1 wx) (fun z _=>match z 0 with|.iface _ (.pointer _)=>1|_=>0) ?_ ?_
 ·exact⟨hv.mono (Kept.new hw1 (X:=fun _=>False)) (fun _ _=>id),Kept.refl _ _⟩
 ·intro z wx hI;obtain⟨hv,hk⟩:=hI;have hk0:Kept (fun _=>False) w wx:=(Kept.new hw1).trans hk (fun _ _=>id);have hB:=hB.kept hk0 id;have hc:=hk0.cell hc id;have c1:cellsAt wx ⟨w.heap.size,0,none⟩ 0 3=some [.pointer (some ⟨14,154,none⟩),.pointer (some ⟨c,0,none⟩),.int .u64 150] :=
   cellsAt_of (b:=w.heap.size) (o:=0) [.pointer (some ⟨14,154,none⟩),.pointer (some ⟨c,0,none⟩),.int .u64 150] 0 (fun j u hu=>hk.cell (by simpa using hw1.cell hu) id)
  generalize hz:z 0=v0 at hv;cases hv with
  | bare n =>
   push_cast -dsimp[hz];refine callK_ext (e:=ReflectliteType.typeOf) Tryz.func168 (by kernel_rfl) (by kernel_rfl) (by kernel_rfl) (by kernel_rfl) (typeOfE _ _) ?_;push_cast -dsimp;refine invK_of (mAssignableTo _ _) ?_;refine callK_ext (e:=ReflectliteType.relation "AssignableTo" ReflectliteType.assignableTo) Tryz.func268 (by kernel_rfl) (by kernel_rfl) (by kernel_rfl) (by kernel_rfl) (assignE _) ?_;push_cast -dsimp[c1];refine callK_ext (e:=ReflectliteValue.method (ReflectliteValue.valueError "reflectlite.Value.Elem" 0) ReflectliteValue.elem) Tryz.func169 (by kernel_rfl) (by kernel_rfl) (by kernel_rfl) (by kernel_rfl) (elemVPE _ _ _ hc) ?_;push_cast -dsimp;refine callK_ext (e:=fun args=>ReflectliteValue.unpack (args.getD 0 (.tuple #[]))) Tryz.func121 (by kernel_rfl) (by kernel_rfl) (by kernel_rfl) (by kernel_rfl) (valueOfE _ _) ?_;push_cast -dsimp;have hN:New wx (wx.alloc (.cells #[.int .i64 n] 26)) 26 [.int .i64 n]:=⟨rfl⟩;generalize wx.alloc (.cells #[.int .i64 n] 26)=w2 at hN;have hB2:=hB.kept (Kept.new hN (X:=fun _=>False)) id;have hf:w2.frozen? ⟨b,0,none⟩=false:=by
    simp only[World.frozen?];rw[show w2.heap[b]?=_ from hB2]
    simp
   refine callK_ext (e:=ReflectliteValue.set) Tryz.func170 (by kernel_rfl) (by kernel_rfl) (by kernel_rfl) (by kernel_rfl) (setE _ _ n u _ (hN.cell rfl) (hB2.cell rfl) hf) ?_;push_cast -dsimp;have hP:=Put.of_setRow (cs:=[.int .i64 n]) hB2;rw[setCell_eq_setRow w2 b 0 _ _ (0,0) _ hB2];exact⟨hP.blk,(hk0.trans (Kept.new hN (X:=fun _=>False)) (fun _ _=>id)).weaken (fun _ _ h=>h.elim) |>.trans hP.kept (fun _ _=>id)⟩
  | at_ a n ha =>
   push_cast -dsimp[hz];refine callK_ext (e:=ReflectliteType.typeOf) Tryz.func168 (by kernel_rfl) (by kernel_rfl) (by kernel_rfl) (by kernel_rfl) (typeOfA _ _) ?_;push_cast -dsimp;refine invK_of (mAssignableTo _ _) ?_;refine callK_ext (e:=ReflectliteType.relation "AssignableTo" ReflectliteType.assignableTo) Tryz.func268 (by kernel_rfl) (by kernel_rfl) (by kernel_rfl) (by kernel_rfl) (assignA _) ?_;push_cast -dsimp[c1];refine assert_lacks (z:=.nilIface) Tryz.underlying237 (by kernel_rfl) (by kernel_rfl) ?_;push_cast -dsimp;refine assert_has Tryz.underlying133 (by kernel_rfl) ?_;push_cast -dsimp;refine invK_of (mUnwrap _ _) (callK_of (unwrap_c a n wx ha) ?_);rintro _ _ ⟨rfl,rfl⟩;push_cast -dsimp;exact⟨.bare n,hk⟩
theorem asE_c (v u:Value)(n:Int)(b:Nat)(w:World)(hE:ErrVar w)(hv:IsErr w v n)(hB:Blk w b 26 [u]) :
  Fun Tryz.prog 94 [v,.iface 154 (.pointer (some ⟨b,0,none⟩))] w
   fun r w'=>r=.bool true∧Blk w' b 26 [.int .i64 n]∧Kept (·=b) w w':=by
 obtain⟨ty,vv,hvv⟩:∃ty vv,v=.iface ty vv:=by cases hv<;>exact⟨_,_,rfl⟩
 refine fun_of_vc Tryz.func94 rfl (by kernel_rfl) [4] rfl ?_;push_cast -dsimp(maxSteps:=4000000) [Tryz.ntmps94];subst hvv;push_cast -dsimp;refine callK_ext (e:=fun args=>ReflectliteValue.unpack (args.getD 0 (.tuple #[]))) Tryz.func121 (by kernel_rfl) (by kernel_rfl) (by kernel_rfl) (by kernel_rfl) (valueOfPE _ _) ?_;have hN:New w (w.alloc (.cells #[.pointer (some ⟨b,0,none⟩)] 154)) 154 [.pointer (some ⟨b,0,none⟩)]:=⟨rfl⟩;generalize w.alloc (.cells #[.pointer (some ⟨b,0,none⟩)] 154)=w1 at hN;have k1:Kept (fun _=>False) w w1:=Kept.new hN;push_cast -dsimp;refine allocK (z:=[.pointer none,.pointer none,.int .u64 0]) (by kernel_rfl) ?_;intro w2 hw2;have k2:=k1.trans (Kept.new (X:=fun _=>False) hw2) (fun _ _=>id);push_cast -dsimp;refine storeAgg (n:=3) (by kernel_rfl) hw2.blk rfl (by simp) (by simp[Value.oneCell']) ?_;intro w3 hw3;have k3:Kept (fun k=>w.heap.size≤k) w w3:=(k2.weaken (fun _ _ h=>h.elim)).trans hw3.kept (fun i _ h=>by have:=hN.size;show w.heap.size≤i;omega)
 have hB3:=hB.kept k3 (by have:=hB.lt;omega);have c3:cellsAt w3 ⟨w1.heap.size,0,none⟩ 0 3=some [.pointer (some ⟨14,154,none⟩),.pointer (some ⟨w.heap.size,0,none⟩),.int .u64 150] :=
  cellsAt_of (b:=w1.heap.size) (o:=0) [.pointer (some ⟨14,154,none⟩),.pointer (some ⟨w.heap.size,0,none⟩),.int .u64 150] 0 (fun j u hu=>by simpa using hw3.blk.cell (by simpa using hu))
 push_cast -dsimp[c3];refine callK_ext (e:=ReflectliteValue.methodAny (ReflectliteValue.valueError "reflectlite.Value.Type" 0) (fun t _ _ _=>ReflectliteType.toType t)) Tryz.func122 (by kernel_rfl) (by kernel_rfl) (by kernel_rfl) (by kernel_rfl) (typePE _ _) ?_;have k3':Kept (fun _=>False) w w3:=⟨k3.os,k3.tape,k3.output,k3.size,fun i hi _=>k3.block i hi (by omega)⟩;have hE3:ErrVar w3:=k3'.cell hE id;have hs3:w3.cell? ⟨w.heap.size,0,none⟩=some (.pointer (some ⟨b,0,none⟩)):=hw3.kept.cell (World.cell?_of_block (w:=w1) (hw2.below.block w.heap.size (by have:=hN.size;omega)) |>.trans (hN.cell rfl)) (by have:=hN.size;show ¬w.heap.size=w1.heap.size;omega)
 unfold ErrVar at hE3;push_cast -dsimp;refine invK_of (mKind _ _) ?_;refine callK_ext (e:=ReflectliteType.abiMethod fun t=>do pure (.int .u8 (←Rtype.kind t))) Tryz.func258 (by kernel_rfl) (by kernel_rfl) (by kernel_rfl) (by kernel_rfl) (kindPE _) ?_;push_cast -dsimp[c3];refine callK_ext (e:=ReflectliteValue.method (ReflectliteValue.valueError "reflectlite.Value.IsNil" 0) ReflectliteValue.isNil) Tryz.func123 (by kernel_rfl) (by kernel_rfl) (by kernel_rfl) (by kernel_rfl) (isNilPE _ _ _ hs3) ?_;push_cast -dsimp;refine invK_of (mElem _ _) ?_;refine callK_ext (e:=ReflectliteType.method ReflectliteType.elem) Tryz.func270 (by kernel_rfl) (by kernel_rfl) (by kernel_rfl) (by kernel_rfl) (elemPE _) ?_;push_cast -dsimp;refine invK_of (mKind _ _) ?_;refine callK_ext (e:=ReflectliteType.abiMethod fun t=>do pure (.int .u8 (←Rtype.kind t))) Tryz.func258 (by kernel_rfl) (by kernel_rfl) (by kernel_rfl) (by kernel_rfl) (kindE _) ?_;push_cast -dsimp[hE3];refine invK_of (mImplements _ _) ?_;refine callK_ext (e:=ReflectliteType.relation "Implements" ReflectliteType.implements_) Tryz.func271 (by kernel_rfl) (by kernel_rfl) (by kernel_rfl) (by kernel_rfl) (implementsE _) ?_;push_cast -dsimp[c3];refine callK_of (as_c _ u n b w.heap.size w3 (hv.mono k3' (fun _ _=>id)) hB3 hs3) ?_;rintro _ w4 ⟨rfl,hB4,hk4⟩;push_cast -dsimp;exact⟨hB4,(k3'.weaken (fun _ _ h=>h.elim)).trans hk4 (fun _ _=>id)⟩
theorem tell0_c (w:World):Fun Tryz.prog 62 [.nilIface] w fun r w'=>r=.int .i64 0∧w'=w:=by
 refine fun_of_vc Tryz.func62 rfl (by kernel_rfl) [2] rfl ?_;push_cast -dsimp(maxSteps:=4000000) [Tryz.ntmps62]
theorem tell_c (v:Value)(n:Int)(w:World)(hE:ErrVar w)(hv:IsErr w v n):Fun Tryz.prog 62 [v] w fun r w'=>r=.int .i64 n∧Below w.heap.size w w':=by
 obtain⟨ty,vv,hvv⟩:∃ty vv,v=.iface ty vv:=by cases hv<;>exact⟨_,_,rfl⟩
 refine fun_of_vc Tryz.func62 rfl (by kernel_rfl) [2] rfl ?_;push_cast -dsimp(maxSteps:=4000000) [Tryz.ntmps62];subst hvv;push_cast -dsimp;refine allocK (z:=[.int .i64 0]) (by kernel_rfl) ?_;intro w1 hw1;have k1:Kept (fun _=>False) w w1:=Kept.new hw1;push_cast -dsimp;refine callK_of (asE_c _ _ n _ w1 (k1.cell hE id) (hv.mono k1 (fun _ _=>id)) hw1.blk) ?_;rintro _ w2 ⟨rfl,hB2,hk2⟩;have c2:=hB2.cell (o:=0) rfl;push_cast -dsimp[c2];exact hw1.below.trans (hk2.below (Nat.le_of_lt (by have:=hw1.size;omega)) (fun i h=>by subst h;exact Nat.le_refl _))
inductive Placed (w:World):Value→Int→Int→Prop
 | bare (n:Int):Placed w (.iface 26 (.int .i64 n)) n (-1)
 | at_ (b:Nat) (n p:Int):w.cell? ⟨b,0,none⟩=some (.int .i64 n)→w.cell? ⟨b,1,none⟩=some (.int .i64 p)→Placed w (.iface 96 (.pointer (some ⟨b,0,none⟩))) n p
theorem Placed.isErr {w:World}{v:Value}{n p:Int}(h:Placed w v n p):IsErr w v n:=by
 cases h with
 | bare=>exact .bare _
 | at_ b _ _ h1 _=>exact .at_ b _ h1
theorem Placed.below {w w':World}{v:Value}{n p:Int}(h:Placed w v n p)(hk:Below w.heap.size w w'):Placed w' v n p:=by
 cases h with
 | bare n=>exact .bare n
 | at_ b n p h1 h2=>exact .at_ b n p ((hk.cell (World.block_lt_of_cell? w _ h1)).trans h1) ((hk.cell (World.block_lt_of_cell? w _ h2)).trans h2)
theorem place0_c (w:World):Fun Tryz.prog 34 [.nilIface] w fun r w'=>r=.tuple #[.int .i64 0,.int .i64 (-1)]∧w'=w:=by
 refine fun_of_vc Tryz.func34 rfl (by kernel_rfl) [2,3] rfl ?_;push_cast -dsimp(maxSteps:=4000000) [Tryz.ntmps34];refine callK_of (tell0_c w) ?_;rintro _ w1 ⟨rfl,hw1⟩;push_cast -dsimp;refine wpL_loop [0,2,3,5,6,7,8,11,12,13,14,15,16,17,18,19,20,21,22,23,24,25,26,27,28,29,30,31,32,33,34,35,36] (fun z wx=>z 0=.nilIface∧wx=w1) (fun _ _=>0) ⟨rfl,rfl⟩ ?_;intro z wx hI;obtain⟨h0,hw⟩:=hI;push_cast -dsimp[h0];exact hw.trans hw1
theorem place_c (v:Value)(n p:Int)(w:World)(hE:ErrVar w)(hv:Placed w v n p):Fun Tryz.prog 34 [v] w fun r w'=>r=.tuple #[.int .i64 n,.int .i64 p]∧Below w.heap.size w w':=by
 refine fun_of_vc Tryz.func34 rfl (by kernel_rfl) [2,3] rfl ?_;push_cast -dsimp(maxSteps:=4000000) [Tryz.ntmps34];refine callK_of (tell_c v n w hE hv.isErr) ?_;rintro _ w1 ⟨rfl,hb1⟩;push_cast -dsimp;refine wpL_loop [0,2,3,5,6,7,8,11,12,13,14,15,16,17,18,19,20,21,22,23,24,25,26,27,28,29,30,31,32,33,34,35,36] (fun z wx=>z 0=v∧wx=w1) (fun _ _=>0) ⟨rfl,rfl⟩ ?_;rintro z wx ⟨h0,rfl⟩;have hv1:=hv.below hb1;cases hv1 with
 | bare n =>
  push_cast -dsimp[h0];refine valK_of (v:=.tuple #[.pointer none,.bool false]) (w':=wx) (by kernel_rfl) ?_;push_cast -dsimp;refine assert_lacks (z:=.nilIface) Tryz.underlying133 (by kernel_rfl) (by kernel_rfl) ?_;push_cast -dsimp;exact hb1
 | at_ b n p h1 h2 =>
  push_cast -dsimp[h0];refine valK_of (v:=.tuple #[.pointer (some ⟨b,0,none⟩),.bool true]) (w':=wx) (by kernel_rfl) ?_;push_cast -dsimp;refine wpL_draw (fun w'=>w'=wx.drew) mixed (by kernel_rfl) rfl ?_;have d2:wx.drew.cell? ⟨b,1,none⟩=some (.int .i64 p):=h2;push_cast -dsimp[d2];exact⟨fun w'' hw=>by subst hw;rw[d2];exact rfl,hb1.drew⟩
end Go.Proofs.YtodeeahdhnjpkaaGreatDoor
end
section
namespace Go.Proofs.YtodeeahdhnjpkaaGreatDoor
open Go.Deep Go.ChangeShapes Go.WideShapes Go.ChangeAt Go.RowKit Go.Vc Cae
theorem own:ownKnob Tryz.prog.godebug=none:=by kernel_rfl
theorem laidOut:laidOutB Tryz.prog=true:=by kernel_rfl
def dbTab:List Int:=[0,1,56,2,57,49,28,3,61,58,42,50,38,29,17,4,62,47,59,36,45,43,51,22,53,39,33,30,24,18,12,5,63,55,48,27,60,41,37,16,46,35,44,21,52,32,23,11,54,26,40,15,34,20,31,10,25,14,19,9,13,8,7,6]
theorem db_of {W:World}{l:List (String×DataW Unit)}(hl:(l.filter fun x=>x.1 == "math/bits.deBruijn64tab")=[("math/bits.deBruijn64tab",Rows.laid_math_bits_deBruijn64tab)])(h:laidMetH Tryz.prog l W):Db W:=by
 have h:=h.filter (fun x=>x.1 == "math/bits.deBruijn64tab");rw[hl,MakeChecks.laidMetH_plain _ _ _ (by kernel_rfl)]at h;have hg:Tryz.prog.globalNamed "math/bits.deBruijn64tab"=some 12:=by kernel_rfl
 have ht:Lib.TabIs Tryz.prog W "math/bits.deBruijn64tab" .u8 dbTab:=Lib.tabIs_of_head (n:=64) (t:=317) (e:=5) hg (by kernel_rfl) (by kernel_rfl) (by kernel_rfl) (by kernel_rfl) (by kernel_rfl) h;exact ht.cell hg 15 (by decide)
theorem errs_of {W:World}{l:List (String×DataW Unit)}(h1:(l.filter fun x=>x.1 == "strconv.ErrSyntax")=[("strconv.ErrSyntax",Rows.laid_strconv_ErrSyntax)])(h2:(l.filter fun x=>x.1 == "strconv.ErrRange")=[("strconv.ErrRange",Rows.laid_strconv_ErrRange)])(h:laidMetH Tryz.prog l W):SErrs W:=by
 constructor
 ·have h:=h.filter (fun x=>x.1 == "strconv.ErrSyntax");rw[h1,MakeChecks.laidMetH_plain _ _ _ (by kernel_rfl)]at h;obtain⟨ps,⟨g,t,cs,fuel,p,q,hg,ht,hv,hd,_,_⟩,_,_⟩:=h;obtain rfl:=Option.some.inj ((show Tryz.prog.globalNamed "strconv.ErrSyntax"=some 6 by kernel_rfl).symm.trans hg)
  obtain rfl:=Option.some.inj ((show (Tryz.prog.globals[6]?).map (·.type)=some 32 by kernel_rfl).symm.trans ht)
  obtain⟨_,u,v,hcs,_,_⟩:=iface_of_trod Tryz.underlying32 hd;obtain⟨lc⟩:=cs;have hcs':lc=[.iface u v]:=hcs;subst hcs';exact⟨u,v,by simpa using World.var?_cell hg hv 0⟩
 ·have h:=h.filter (fun x=>x.1 == "strconv.ErrRange");rw[h2,MakeChecks.laidMetH_plain _ _ _ (by kernel_rfl)]at h;obtain⟨ps,⟨g,t,cs,fuel,p,q,hg,ht,hv,hd,_,_⟩,_,_⟩:=h;obtain rfl:=Option.some.inj ((show Tryz.prog.globalNamed "strconv.ErrRange"=some 7 by kernel_rfl).symm.trans hg)
  obtain rfl:=Option.some.inj ((show (Tryz.prog.globals[7]?).map (·.type)=some 32 by kernel_rfl).symm.trans ht)
  obtain⟨_,u,v,hcs,_,_⟩:=iface_of_trod Tryz.underlying32 hd;obtain⟨lc⟩:=cs;have hcs':lc=[.iface u v]:=hcs;subst hcs';exact⟨u,v,by simpa using World.var?_cell hg hv 0⟩
def laidE:List (String×DataW Unit):=[("errors.errorType",Rows.laid_errors_errorType)]
theorem errVar_of {W:World}{l:List (String×DataW Unit)}(hl:(l.filter fun x=>x.2.handleName?.isSome)=laidE)(h:laidMetH Tryz.prog l W):ErrVar W:=by
 have h':=(laidMetH_iff.1 h).2;obtain⟨name,u,ty,e1,e2,e3,e4,e5⟩:=h' ("errors.errorType",Rows.laid_errors_errorType) (by rw[hl];exact List.mem_singleton.2 rfl);have en:name=[101,114,114,111,114]:=(Option.some.inj e1).symm;subst en;obtain rfl:=Option.some.inj ((show (Tryz.prog.cutTypes.find? (·.1 == "internal/reflectlite.rtype")).map (·.2)=some 232 by kernel_rfl).symm.trans e2)
 have hm:ty∈(List.range Tryz.prog.types.size).filter fun t=>Tryz.prog.rowNamed t [101,114,114,111,114]:=List.mem_filter.2 ⟨List.mem_range.2 e3,e4⟩;rw[show ((List.range Tryz.prog.types.size).filter fun t=>Tryz.prog.rowNamed t [101,114,114,111,114])=[32] by kernel_rfl]at hm
 obtain rfl:=List.mem_singleton.1 hm;rw[show typeHandle Tryz.prog 32=.pointer (some ⟨14,32,none⟩) by kernel_rfl]at e5
 have:=World.var?_cell (show Tryz.prog.globalNamed "errors.errorType"=some 3 by kernel_rfl) e5 0
 unfold ErrVar;simpa using this
theorem handed_and {H:Type}{enc:TypeId×Value→H}{a:Assume}{C:Checked}{os:Os}{f:FuncId}{fn:Func}{s:ChangeSpec}{conds:List PathCond}{apart fresh handsOn again:Bool}{X:World→Array Value→Prop}
  (hX:∀(w w':World) (args:Array Value),w.heap=w'.heap→X w args→X w' args)
  (own:ownKnob C.prog.godebug=none) (started:os.Started) (noInit:C.prog.inits.idxOf? f=none) (hfn:C.prog.funcs[f]?=some fn)
  (witness:∃(w:World) (tape:Tape) (i:Input),w.os=os∧(w.forCall tape i).Shaped C.prog∧i.vars=[]∧Input.okWide C.prog (w.forCall tape i) .any w.heap.size f i ∧
   ((s.pre enc C.prog fn conds apart (w.forCall tape i).memory i.args∧X (w.forCall tape i).memory i.args)∧sizedMet enc C.prog fn (OpenSpec.ofChange s) apart (w.forCall tape i).memory i.args)∧a.holds C.prog (lone (Frame.enter C.prog f i.args .normal) [] (w.forCall tape i)))
  (contract:∀(W:World) (base:Nat) (args:Array Value) (ds gs:List (DataW H)) (before:List MemPlace),
   (∀(j:Nat) t v,fn.params[j]?=some t→args[j]?=some v→Value.okWide C.prog W .any base t v) →
   DataW.Whole enc C.prog fn.params.toList s.vars apart W args.toList ds gs before →
   (DataW.weightsEach C.prog (fn.params.toList++s.plain.varTypes C.prog) (ds++gs)).all (·≤reachBytes)=true→X W args→W.ShapedOpen C.prog →
   Calls C.prog f args W fun e W'=>∃v,e=.returned v∧s.post enc C.prog fn apart fresh handsOn again W args v W') :
  ReturnsInHanded a C os f .any (fun w args=>(s.pre enc C.prog fn conds apart w args∧X w args)∧sizedMet enc C.prog fn (OpenSpec.ofChange s) apart w args) (s.post enc C.prog fn apart fresh handsOn again):=by
 refine returnsInHanded_of_calls own started noInit witness ?_;intro w tape i _ hsh _ hok hpre hholds;obtain⟨_,_,_,fn',hfn',_,_,_,_,hval⟩:=hok;have e:fn'=fn:=Option.some.inj (hfn'.symm.trans hfn);subst e;obtain⟨⟨⟨ds,gs,before,hw,hc⟩,hx⟩,hz⟩:=hpre;have hw':=DataW.Whole.of_heap (w':=w.forCall tape i) (by rfl) hw;refine(contract (w.forCall tape i) w.heap.size i.args ds gs before hval hw' (hz.weights hw) (hX _ _ _ (by rfl) hx) hsh).mono fun e W' ⟨v,he,hp⟩=>?_;subst he;exact ChangeSpec.post_blind hp
section
variable {H:Type} {enc:TypeId×Value→H} {W:World} {base:Nat} {sp:Nat→Bool} {held:Bool}
end
noncomputable def leavesW (P:Program)(w:World)(fuel M:Nat)(l:List String):Option (List (String×DataW Unit)) :=
 (DataW.laidRun P w fuel l).bind fun x=>if nodupBits M x.2 0 && laidRowsB P w x.2 then some x.1 else none
theorem laidMet_one {P:Program}{w:World}{l:List (String×DataW Unit)}(fuel M:Nat)(h:leavesW P w fuel M (l.map (·.1))=some l):laidMet P l w:=by
 unfold leavesW at h;rw[Option.bind_eq_some_iff]at h;obtain⟨x,hx,h⟩:=h;split at h
 ·rename_i hb;rw[Bool.and_eq_true]at hb;cases h;exact laidMet_of_run (ps:=x.2) fuel hx (decide_eq_true (nodupBits_sound hb.1).1) hb.2
 ·cases h
theorem sp_of {W:World}{l:List (String×DataW Unit)}(hl:(l.filter fun x=>x.1 == "strings.asciiSpace")=[("strings.asciiSpace",Rows.laid_strings_asciiSpace)])(h:laidMetH Tryz.prog l W):Lib.TabIs Tryz.prog W "strings.asciiSpace" .u8 Lib.asciiSpaceTab:=by
 have h:=h.filter (fun x=>x.1 == "strings.asciiSpace");rw[hl,MakeChecks.laidMetH_plain _ _ _ (by kernel_rfl)]at h;have hg:Tryz.prog.globalNamed "strings.asciiSpace"=some 4:=by kernel_rfl
 exact Lib.tabIs_of_head (n:=256) (t:=211) (e:=5) hg (by kernel_rfl) (by kernel_rfl) (by kernel_rfl) (by kernel_rfl) (by kernel_rfl) h
def spaceR_ren:Go.Shelf.Ren:=⟨fun|199=>147|261=>178|311=>206|312=>207|n=>n,fun|21=>21|4=>4|51=>206|141=>254|0=>0|196=>277|193=>274|3=>3|198=>280|49=>278|194=>275|201=>283|226=>301|46=>109|227=>302|n=>n,fun|6=>5|n=>n⟩
theorem spaceR:Go.Proofs.Lays.n199 Tryz.prog spaceR_ren:={
 mixed:=by kernel_rfl
 f199:=Tryz.func147.trans (congrArg some (by kernel_rfl))
 f261:=Tryz.func178.trans (congrArg some (by kernel_rfl))
 f311:=Tryz.func206.trans (congrArg some (by kernel_rfl))
 f312:=Tryz.func207.trans (congrArg some (by kernel_rfl))
 t0:=Tryz.underlying0
 a0:=Tryz.isAgg0
 z0:=Tryz.sizeOf0
 v0:=Tryz.zeroValue0
 t3:=Tryz.underlying3
 a3:=Tryz.isAgg3
 z3:=Tryz.sizeOf3
 v3:=Tryz.zeroValue3
 t4:=Tryz.underlying4
 a4:=Tryz.isAgg4
 z4:=Tryz.sizeOf4
 v4:=Tryz.zeroValue4
 t21:=Tryz.underlying21
 a21:=Tryz.isAgg21
 z21:=Tryz.sizeOf21
 v21:=Tryz.zeroValue21
 t46:=Tryz.underlying109
 a46:=Tryz.isAgg109
 z46:=Tryz.sizeOf109
 v46:=Tryz.zeroValue109
 t49:=Tryz.underlying278
 a49:=Tryz.isAgg278
 z49:=Tryz.sizeOf278
 v49:=Tryz.zeroValue278
 t51:=Tryz.underlying206
 a51:=Tryz.isAgg206
 z51:=Tryz.sizeOf206
 v51:=Tryz.zeroValue206
 t141:=Tryz.underlying254
 a141:=Tryz.isAgg254
 z141:=Tryz.sizeOf254
 v141:=Tryz.zeroValue254
 t193:=Tryz.underlying274
 a193:=Tryz.isAgg274
 z193:=Tryz.sizeOf274
 v193:=Tryz.zeroValue274
 t194:=Tryz.underlying275
 a194:=Tryz.isAgg275
 z194:=Tryz.sizeOf275
 v194:=Tryz.zeroValue275
 t196:=Tryz.underlying277
 a196:=Tryz.isAgg277
 z196:=Tryz.sizeOf277
 v196:=Tryz.zeroValue277
 t198:=Tryz.underlying280
 a198:=Tryz.isAgg280
 z198:=Tryz.sizeOf280
 v198:=Tryz.zeroValue280
 t201:=Tryz.underlying283
 a201:=Tryz.isAgg283
 z201:=Tryz.sizeOf283
 v201:=Tryz.zeroValue283
 t226:=Tryz.underlying301
 a226:=Tryz.isAgg301
 z226:=Tryz.sizeOf301
 v226:=Tryz.zeroValue301
 t227:=Tryz.underlying302
 a227:=Tryz.isAgg302
 z227:=Tryz.sizeOf302
 v227:=Tryz.zeroValue302
 g6:=by kernel_rfl }
theorem wt_of {W:World}{l:List (String×DataW Unit)}(hl:(l.filter fun x=>x.1 == "unicode.White_Space")=[("unicode.White_Space",Rows.laid_unicode_White_Space)])(h:laidMetH Tryz.prog l W):Lib.WhiteTab 5 W:=by
 have h:=h.filter (fun x=>x.1 == "unicode.White_Space");rw[hl,MakeChecks.laidMetH_plain _ _ _ (by kernel_rfl)]at h;have e:(Rows.laid_unicode_White_Space:DataW Unit)=Lib.whiteData:=by kernel_rfl
 have hr:=Lib.laidMet.reads h (n := "unicode.White_Space") (d:=Rows.laid_unicode_White_Space) (List.mem_singleton.2 rfl);rw[e]at hr;exact whiteTab_of_reads spaceR ⟨by kernel_rfl,by kernel_rfl,by kernel_rfl,by kernel_rfl,by kernel_rfl,by kernel_rfl,by kernel_rfl,by kernel_rfl⟩ hr
theorem tv_of {W:World}{l:List (String×DataW Unit)}(h1:(l.filter fun x=>x.1 == "strings.asciiSpace")=[("strings.asciiSpace",Rows.laid_strings_asciiSpace)])(h2:(l.filter fun x=>x.1 == "unicode.White_Space")=[("unicode.White_Space",Rows.laid_unicode_White_Space)])(h:laidMetH Tryz.prog l W)(hs:W.ShapedOpen Tryz.prog):Tv W :=
 ⟨cell_of_shapedOpen_int (g:=2) (zero:=#[.int .i64 0]) hs (by decide +kernel) (by kernel_rfl) (by kernel_rfl) (by kernel_rfl) (by kernel_rfl) Tryz.underlying3,sp_of h1 h,wt_of h2 h⟩
theorem fine_of {W:World}{l:List (String×DataW Unit)}(hl:(l.filter fun x=>x.1 == "caesura/caesuraref.Fine")=[("caesura/caesuraref.Fine",Rows.laid_caesura_caesuraref_Fine)])(h:laidMetH Tryz.prog l W):W.cell? ⟨0,0,none⟩=some (.int .i64 0)∧W.cell? ⟨0,1,none⟩=some (.int .i64 (-1)):=by
 have h:=h.filter (fun x=>x.1 == "caesura/caesuraref.Fine");rw[hl,MakeChecks.laidMetH_plain _ _ _ (by kernel_rfl)]at h;obtain⟨ps,⟨g,t,cs,fuel,p,q,hg,ht,hv,hd,_,_⟩,_,_⟩:=h;obtain rfl:=Option.some.inj ((show Tryz.prog.globalNamed "caesura/caesuraref.Fine"=some 0 by kernel_rfl).symm.trans hg)
 obtain rfl:=Option.some.inj ((show (Tryz.prog.globals[0]?).map (·.type)=some 28 by kernel_rfl).symm.trans ht)
 obtain⟨xs,m,_,ex,hlen,hl,hel⟩:=DataW.trod_struct Tryz.underlying28 hd;rw[show Tryz.prog.cellsOf 28=2 by kernel_rfl]at hlen
 have key:cs=#[.int .i64 0,.int .i64 (-1)]:=by
  obtain⟨l⟩:=cs;match l,hlen with
  | [a,b],_ =>
   match xs,hl with
   | [x0,x1],_ =>
    have e3:=(DataW.agg.inj (Prod.mk.inj ex).1);simp only[List.map_cons,List.map_nil,List.cons.injEq,and_true]at e3;have k0:=hel 0 _ rfl;have k1:=hel 1 _ rfl;obtain⟨z0,a0,b0,_⟩:=DataW.trod_int Tryz.underlying26 k0;obtain⟨z1,a1,b1,_⟩:=DataW.trod_int Tryz.underlying3 k1;have c0:Tryz.prog.cellsOf 26=1:=by kernel_rfl
    have c1:Tryz.prog.cellsOf 3=1:=by kernel_rfl
    have a0':List.take (Tryz.prog.cellsOf 26) [a,b]=[.int .i64 z0]:=a0;have a1':List.take (Tryz.prog.cellsOf 3) [b]=[.int .i64 z1]:=a1;rw[c0]at a0';rw[c1]at a1';have n0:a=.int .i64 z0:=by simpa using a0'
    have n1:b=.int .i64 z1:=by simpa using a1'
    subst b0 b1;have e4:(0:Int)=z0∧(-1:Int)=z1:=by simpa using e3
    rw[n0,n1,←e4.1,←e4.2]
 subst key;exact⟨by simpa using World.var?_cell hg hv 0,by simpa using World.var?_cell hg hv 1⟩
theorem ng_of {W:World}(h:W.ShapedOpen Tryz.prog):14≤W.heap.size:=by
 obtain⟨o,o0,h1,_⟩:=h.2 14 (of_decide_eq_true (by kernel_rfl)) (of_decide_eq_true (by kernel_rfl))
 have:=(Array.getElem?_eq_some_iff.1 h1).1;omega
theorem gr_of {W:World}{l:List (String×DataW Unit)}(h0:(l.filter fun x=>x.1 == "math/bits.deBruijn64tab")=[("math/bits.deBruijn64tab",Rows.laid_math_bits_deBruijn64tab)])(h1:(l.filter fun x=>x.1 == "strconv.ErrSyntax")=[("strconv.ErrSyntax",Rows.laid_strconv_ErrSyntax)])(h2:(l.filter fun x=>x.1 == "strconv.ErrRange")=[("strconv.ErrRange",Rows.laid_strconv_ErrRange)])
  (h3:(l.filter fun x=>x.1 == "strings.asciiSpace")=[("strings.asciiSpace",Rows.laid_strings_asciiSpace)]) (h4:(l.filter fun x=>x.1 == "unicode.White_Space")=[("unicode.White_Space",Rows.laid_unicode_White_Space)]) (h5:(l.filter fun x=>x.1 == "caesura/caesuraref.Fine")=[("caesura/caesuraref.Fine",Rows.laid_caesura_caesuraref_Fine)]) (h:laidMetH Tryz.prog l W) (hs:W.ShapedOpen Tryz.prog):Gr W :=
 ⟨db_of h0 h,errs_of h1 h2 h,tv_of h3 h4 h hs,(fine_of h5 h).1,(fine_of h5 h).2⟩
end Go.Proofs.YtodeeahdhnjpkaaGreatDoor
end
section
namespace Cae
def stepM (pts:List Int)(back:Bool)(i:Nat):Option (Nat×Int) :=
 if back then (if i=0 then none else (pts[i-1]?).map fun p=>(i-1,p)) else (pts[i]?).map fun p=>(i+1,p)
def iterM (R:Nat→Nat→Prop):Nat→Nat→Nat→Prop
 | 0,i,j=>i=j
 | n+1,i,j=>∃m,R i m∧iterM R n m j
section
variable (has:KindP→Int→Prop) (pts:List Int) (back:Bool)
mutual
def Rch:PatP→Nat→Nat→Prop
 | .one k,i,j=>∃p,stepM pts back i=some (j,p)∧has k p
 | .any,i,j=>∃p,stepM pts back i=some (j,p)
 | .edge,i,j=>i=j∧stepM pts back i=none
 | .cat l,i,j=>if back then RchB l i j else RchF l i j
 | .alt l,i,j=>RchA l i j
 | .many x lo hi,i,j=>∃n:Nat,lo≤n∧(hi<0∨(n:Int)≤hi)∧iterM (fun a b=>Rch x a b) n i j
def RchF:List PatP→Nat→Nat→Prop
 | [],i,j=>i=j
 | x::l,i,j=>∃m,Rch x i m∧RchF l m j
def RchB:List PatP→Nat→Nat→Prop
 | [],i,j=>i=j
 | x::l,i,j=>∃m,RchB l i m∧Rch x m j
def RchA:List PatP→Nat→Nat→Prop
 | [],_,_=>False
 | x::l,i,j=>Rch x i j∨RchA l i j
end
end
section
variable {has:KindP→Int→Prop} {pts:List Int} {back:Bool}
end
mutual
def mirP:PatP→PatP
 | .one k=>.one k
 | .any=>.any
 | .edge=>.edge
 | .cat l=>.cat (mirPs l).reverse
 | .alt l=>.alt (mirPs l)
 | .many x lo hi=>.many (mirP x) lo hi
def mirPs:List PatP→List PatP
 | []=>[]
 | x::l=>mirP x::mirPs l
end
section
variable {has:KindP→Int→Prop} {pts:List Int} {back:Bool}
end
open Classical
section
variable (has:KindP→Int→Prop) (pts:List Int)
end
section
variable {has:KindP→Int→Prop} {pts:List Int}
end
open Classical
section
variable {has:KindP→Int→Prop} {pts:List Int} {back:Bool}
def Same (has:KindP→Int→Prop)(pts:List Int)(back:Bool)(x y:PatP):Prop:=∀i j,Rch has pts back x i j↔Rch has pts back y i j
theorem cat_two (x y:PatP)(i j:Nat):Rch has pts back (.cat [x,y]) i j↔(if back then ∃m,Rch has pts back y i m∧Rch has pts back x m j else ∃m,Rch has pts back x i m∧Rch has pts back y m j):=by
 cases back<;>simp[Rch,RchF,RchB]
theorem Same.right {x y:PatP}(h:Same has pts back x y)(e:PatP):Same has pts back (.cat [e,x]) (.cat [e,y]):=by
 intro i j;rw[cat_two,cat_two];cases back
 ·exact exists_congr fun m=>and_congr Iff.rfl (h m j)
 ·exact exists_congr fun m=>and_congr (h i m) Iff.rfl
end
section
variable {R:Nat→Nat→Prop} {N:Nat}
end
def KindOk:KindP→Prop
 | .lit _ s=>setRight (-2) s=true∧s.length<10000000
 | .ref _ _=>True
 | .not _ k=>KindOk k
 | .bin c _ k r=>KindOk k∧KindOk r∧(c=3∨c=4∨c=5)
mutual
def PatOk:PatP→Prop
 | .one k=>KindOk k
 | .any=>True
 | .edge=>True
 | .cat l=>PatsOk l
 | .alt l=>PatsOk l
 | .many x lo hi=>PatOk x∧0≤lo∧lo<100∧hi<100∧(hi<0∨lo≤hi)
def PatsOk:List PatP→Prop
 | []=>True
 | x::l=>PatOk x∧PatsOk l
end
end Cae
namespace Cae
theorem texts_map (l:List PatP)(n:Nat):patTexts l n=l.map (patText · n):=by
 induction l with
 | nil=>rfl
 | cons x l ih=>rw[patTexts,ih];rfl
theorem lens_mem:∀{l:List (List UInt8)} {x:List UInt8},x∈l→x.length≤Go.Lib.lens l
 | y::l,x,h=>by
  simp only[Go.Lib.lens,List.map_cons,List.sum_cons];rcases List.mem_cons.1 h with rfl|h
  ·omega
  ·have:=lens_mem h;simp only[Go.Lib.lens]at this;omega
theorem join_bounds (l:List (List UInt8))(sep:List UInt8)(hs:1≤sep.length):Go.Lib.lens l≤(Go.Lib.join l sep).length∧l.length≤(Go.Lib.join l sep).length+1:=by
 cases l with
 | nil=>simp[Go.Lib.lens]
 | cons x l =>
  rw[Go.Lib.join_cons,List.length_append,Go.Lib.joinTail_length];have:1*l.length≤sep.length*l.length:=Nat.mul_le_mul_right _ hs;simp only[Go.Lib.lens,List.map_cons,List.sum_cons,List.length_cons];omega
theorem pt_two (x:PatP):(patText x 2).length≤(patText x 1).length+2:=by
 cases x with
 | cat l =>
  have h1:=(inPar_len (decide (1<2)) (Go.Lib.join (patTexts l 2) [32])).2;have h2:=(inPar_len (decide (1<1)) (Go.Lib.join (patTexts l 2) [32])).1;simp only[patText];omega
 | alt l =>
  have h1:=(inPar_len (decide (0<2)) (Go.Lib.join (patTexts l 1) [32,124,32])).2;have h2:=(inPar_len (decide (0<1)) (Go.Lib.join (patTexts l 1) [32,124,32])).1;simp only[patText];omega
 | _=>simp[patText]
theorem pn_in_cat {l:List PatP}:(Go.Lib.join (patTexts l 2) [32]).length+5=pn (.cat l)∧l.length≤pn (.cat l)∧∀x∈l,pn x≤pn (.cat l):=by
 have h0:=join_bounds (patTexts l 2) [32] (by decide);have h1:(Go.Lib.join (patTexts l 2) [32]).length+5=pn (.cat l):=by simp[pn,patText,inPar]
 refine⟨h1,?_,fun x hx=>?_⟩
 ·rw[texts_map,List.length_map]at h0;rw[texts_map]at h1;omega
 ·have:(patText x 2).length≤Go.Lib.lens (patTexts l 2):=lens_mem (by rw[texts_map];exact List.mem_map.2 ⟨x,hx,rfl⟩);have h2:pn x=(patText x 2).length+3:=rfl;omega
theorem pn_in_alt {l:List PatP}:(Go.Lib.join (patTexts l 1) [32,124,32]).length+5=pn (.alt l)∧l.length≤pn (.alt l)∧∀x∈l,pn x≤pn (.alt l):=by
 have h0:=join_bounds (patTexts l 1) [32,124,32] (by decide);have h1:(Go.Lib.join (patTexts l 1) [32,124,32]).length+5=pn (.alt l):=by simp[pn,patText,inPar]
 refine⟨h1,?_,fun x hx=>?_⟩
 ·rw[texts_map,List.length_map]at h0;rw[texts_map]at h1;omega
 ·have:(patText x 1).length≤Go.Lib.lens (patTexts l 1):=lens_mem (by rw[texts_map];exact List.mem_map.2 ⟨x,hx,rfl⟩);have h2:pn x=(patText x 2).length+3:=rfl
  have:=pt_two x;omega
end Cae
namespace Cae
theorem All2.at {α β:Type}{R:α→β→Prop}{l:List α}{m:List β}(h:All2 R l m):∀{i:Nat} {y:β},m[i]?=some y→∃x,l[i]?=some x∧R x y:=by
 induction h with
 | nil=>intro i y hy;simp at hy
 | cons h1 _ ih =>
  intro i y hy;cases i with
  | zero=>cases hy;exact⟨_,rfl,h1⟩
  | succ i =>
   obtain⟨x,hx,hr⟩:=ih (i:=i) (y:=y) (by simpa using hy);exact⟨x,by simpa using hx,hr⟩
theorem flatS_mem {α:Type}(f:α→List UInt8){l:List α}{x:α}(h:x∈l):(f x).length≤(l.flatMap f).length:=by
 induction l with
 | nil=>cases h
 | cons y l ih =>
  simp only[List.flatMap_cons,List.length_append];rcases List.mem_cons.1 h with rfl|h
  ·omega
  ·have:=ih h;omega
theorem pt_zero (x:PatP):(patText x 2).length≤(patText x 0).length+2:=by
 cases x with
 | cat l =>
  have h1:=(inPar_len (decide (1<2)) (Go.Lib.join (patTexts l 2) [32])).2;have h2:=(inPar_len (decide (1<0)) (Go.Lib.join (patTexts l 2) [32])).1;simp only[patText];omega
 | alt l =>
  have h1:=(inPar_len (decide (0<2)) (Go.Lib.join (patTexts l 1) [32,124,32])).2;have h2:=(inPar_len (decide (0<0)) (Go.Lib.join (patTexts l 1) [32,124,32])).1;simp only[patText];omega
 | _=>simp[patText]
theorem rt_len (r:RuleP):(patText r.before 0).length+(patText r.after 0).length≤(ruleText r).length∧(ruleText r).length≤(patText r.before 0).length+(patText r.after 0).length+20:=by
 unfold ruleText;split<;>split<;>split<;>simp[*]<;>omega
def FileOk (f:FileP):Prop:=(∀c∈f.classes,KindOk c.kind)∧∀r∈f.rules,PatOk r.before∧PatOk r.after
theorem pn_in_many {x:PatP}{lo hi:Int}:pn x≤pn (.many x lo hi):=by
 simp only[pn,patText,List.length_append];omega
end Cae
end
section
namespace Go.Proofs.YtodeeahdhnjpkaaGreatDoor
open Go.Vc Go.Proofs Go.RowKit Cae
attribute [local irreducible] wpL callK valK unitK runK Fun Sl Vc.Own vc vcOps opK pureK
def ptrP (b:Nat):Value:=.pointer (some ⟨b,0,none⟩)
def encP (b:Nat):List Value:=[ptrP b]
theorem encP_one (b:Nat):∀u∈encP b,u.oneCell'=true:=by
 intro u hu;simp[encP,ptrP]at hu;subst hu;rfl
mutual
def PatV (X:Nat→Prop)(w:World):Value→PatP→Prop
 | v,.one k=>∃b u,v=.pointer (some ⟨b,0,none⟩)∧¬X b∧Blk w b 129 [.int .i64 1,u,.slice none 0 0,.int .i64 0,.int .i64 0]∧KindV X w u k
 | v,.any=>∃b,v=.pointer (some ⟨b,0,none⟩)∧¬X b∧Blk w b 129 [.int .i64 2,.pointer none,.slice none 0 0,.int .i64 0,.int .i64 0]
 | v,.edge=>∃b,v=.pointer (some ⟨b,0,none⟩)∧¬X b∧Blk w b 129 [.int .i64 3,.pointer none,.slice none 0 0,.int .i64 0,.int .i64 0]
 | v,.cat l=>∃b sv vs,v=.pointer (some ⟨b,0,none⟩)∧¬X b∧Blk w b 129 [.int .i64 4,.pointer none,sv,.int .i64 0,.int .i64 0]∧Sl X 1 (En encP) w sv vs∧PatsV X w vs l
 | v,.alt l=>∃b sv vs,v=.pointer (some ⟨b,0,none⟩)∧¬X b∧Blk w b 129 [.int .i64 5,.pointer none,sv,.int .i64 0,.int .i64 0]∧Sl X 1 (En encP) w sv vs∧PatsV X w vs l
 | v,.many x lo hi=>∃b sv u,v=.pointer (some ⟨b,0,none⟩)∧¬X b∧Blk w b 129 [.int .i64 6,.pointer none,sv,.int .i64 lo,.int .i64 hi]∧Sl X 1 (En encP) w sv [u]∧PatV X w (ptrP u) x
def PatsV (X:Nat→Prop)(w:World):List Nat→List PatP→Prop
 | [],[]=>True
 | v::vs,x::l=>PatV X w (ptrP v) x∧PatsV X w vs l
 | _,_=>False
end
mutual
theorem PatV.mono {X X' Y:Nat→Prop}{w w':World}(hk:Kept Y w w')(hY:∀i,Y i→X i)(hX:∀i,X' i→X i):∀{x:PatP} {v:Value},PatV X w v x→PatV X' w' v x
 | .one k,v,h=>by
  simp only[PatV]at h ⊢
  obtain⟨b,u,hv,hb,hB,h⟩:=h;exact⟨b,u,hv,fun hh=>hb (hX b hh),hB.kept hk (fun hh=>hb (hY b hh)),h.mono hk hY hX⟩
 | .any,v,h=>by
  simp only[PatV]at h ⊢
  obtain⟨b,hv,hb,hB⟩:=h;exact⟨b,hv,fun hh=>hb (hX b hh),hB.kept hk (fun hh=>hb (hY b hh))⟩
 | .edge,v,h=>by
  simp only[PatV]at h ⊢
  obtain⟨b,hv,hb,hB⟩:=h;exact⟨b,hv,fun hh=>hb (hX b hh),hB.kept hk (fun hh=>hb (hY b hh))⟩
 | .cat l,v,h=>by
  simp only[PatV]at h ⊢
  obtain⟨b,sv,vs,hv,hb,hB,hs,h⟩:=h;exact⟨b,sv,vs,hv,fun hh=>hb (hX b hh),hB.kept hk (fun hh=>hb (hY b hh)),(hs.kept hk hY).weaken hX,PatsV.mono hk hY hX h⟩
 | .alt l,v,h=>by
  simp only[PatV]at h ⊢
  obtain⟨b,sv,vs,hv,hb,hB,hs,h⟩:=h;exact⟨b,sv,vs,hv,fun hh=>hb (hX b hh),hB.kept hk (fun hh=>hb (hY b hh)),(hs.kept hk hY).weaken hX,PatsV.mono hk hY hX h⟩
 | .many x lo hi,v,h=>by
  simp only[PatV]at h ⊢
  obtain⟨b,sv,u,hv,hb,hB,hs,h⟩:=h;exact⟨b,sv,u,hv,fun hh=>hb (hX b hh),hB.kept hk (fun hh=>hb (hY b hh)),(hs.kept hk hY).weaken hX,PatV.mono hk hY hX h⟩
theorem PatsV.mono {X X' Y:Nat→Prop}{w w':World}(hk:Kept Y w w')(hY:∀i,Y i→X i)(hX:∀i,X' i→X i):∀{l:List PatP} {vs:List Nat},PatsV X w vs l→PatsV X' w' vs l
 | [],[],_=>by simp only[PatsV]
 | [],_::_,h=>by simp only[PatsV]at h
 | _::_,[],h=>by simp only[PatsV]at h
 | x::l,v::vs,h=>by
  simp only[PatsV]at h ⊢
  exact⟨PatV.mono hk hY hX h.1,PatsV.mono hk hY hX h.2⟩
end
mutual
theorem PatV.top {X:Nat→Prop}{w:World}:∀{x:PatP} {v:Value},PatV X w v x→PatV (fun b=>X b∨w.heap.size≤b) w v x
 | .one k,v,h=>by
  simp only[PatV]at h ⊢
  obtain⟨b,u,hv,hb,hB,h⟩:=h;exact⟨b,u,hv,fun hh=>hh.elim hb (fun hh=>by have:=hB.lt;omega),hB,h.top⟩
 | .any,v,h=>by
  simp only[PatV]at h ⊢
  obtain⟨b,hv,hb,hB⟩:=h;exact⟨b,hv,fun hh=>hh.elim hb (fun hh=>by have:=hB.lt;omega),hB⟩
 | .edge,v,h=>by
  simp only[PatV]at h ⊢
  obtain⟨b,hv,hb,hB⟩:=h;exact⟨b,hv,fun hh=>hh.elim hb (fun hh=>by have:=hB.lt;omega),hB⟩
 | .cat l,v,h=>by
  simp only[PatV]at h ⊢
  obtain⟨b,sv,vs,hv,hb,hB,hs,h⟩:=h;exact⟨b,sv,vs,hv,fun hh=>hh.elim hb (fun hh=>by have:=hB.lt;omega),hB,Sl.top (by decide) hs,PatsV.top h⟩
 | .alt l,v,h=>by
  simp only[PatV]at h ⊢
  obtain⟨b,sv,vs,hv,hb,hB,hs,h⟩:=h;exact⟨b,sv,vs,hv,fun hh=>hh.elim hb (fun hh=>by have:=hB.lt;omega),hB,Sl.top (by decide) hs,PatsV.top h⟩
 | .many x lo hi,v,h=>by
  simp only[PatV]at h ⊢
  obtain⟨b,sv,u,hv,hb,hB,hs,h⟩:=h;exact⟨b,sv,u,hv,fun hh=>hh.elim hb (fun hh=>by have:=hB.lt;omega),hB,Sl.top (by decide) hs,PatV.top h⟩
theorem PatsV.top {X:Nat→Prop}{w:World}:∀{l:List PatP} {vs:List Nat},PatsV X w vs l→PatsV (fun b=>X b∨w.heap.size≤b) w vs l
 | [],[],_=>by simp only[PatsV]
 | [],_::_,h=>by simp only[PatsV]at h
 | _::_,[],h=>by simp only[PatsV]at h
 | x::l,v::vs,h=>by
  simp only[PatsV]at h ⊢
  exact⟨PatV.top h.1,PatsV.top h.2⟩
end
theorem PatV.ptr {X:Nat→Prop}{w:World}{x:PatP}{v:Value}(h:PatV X w v x):∃b,v=.pointer (some ⟨b,0,none⟩)∧b<w.heap.size∧¬X b:=by
 cases x<;>simp only[PatV]at h
 ·obtain⟨b,u,hv,hx,hB,_⟩:=h;exact⟨b,hv,hB.lt,hx⟩
 ·obtain⟨b,hv,hx,hB⟩:=h;exact⟨b,hv,hB.lt,hx⟩
 ·obtain⟨b,hv,hx,hB⟩:=h;exact⟨b,hv,hB.lt,hx⟩
 ·obtain⟨b,_,_,hv,hx,hB,_⟩:=h;exact⟨b,hv,hB.lt,hx⟩
 ·obtain⟨b,_,_,hv,hx,hB,_⟩:=h;exact⟨b,hv,hB.lt,hx⟩
 ·obtain⟨b,_,_,hv,hx,hB,_⟩:=h;exact⟨b,hv,hB.lt,hx⟩
theorem PatV.below {X:Nat→Prop}{w w':World}{x:PatP}{v:Value}(h:PatV X w v x)(hb:Below w.heap.size w w'):PatV X w' v x :=
 h.mono (X:=X) (Kept.of_below hb (X:=fun _=>False) (fun i h1 h2=>by omega)) (fun _ h=>h.elim) (fun _ h=>h)
theorem PatsV.snoc {X:Nat→Prop}{w:World}:∀{l:List PatP} {vs:List Nat} {x:PatP} {v:Nat},PatsV X w vs l→PatV X w (ptrP v) x→PatsV X w (vs++[v]) (l++[x])
 | [],[],_,_,_,hx=>by
  simp only[List.nil_append,PatsV];exact⟨hx,trivial⟩
 | [],_::_,_,_,h,_=>by simp only[PatsV]at h
 | _::_,[],_,_,h,_=>by simp only[PatsV]at h
 | x::l,v::vs,y,u,h,hx=>by
  simp only[PatsV,List.cons_append]at h ⊢
  exact⟨h.1,PatsV.snoc h.2 hx⟩
theorem PatsV.len {X:Nat→Prop}{w:World}:∀{l:List PatP} {vs:List Nat},PatsV X w vs l→vs.length=l.length
 | [],[],_=>rfl
 | [],_::_,h=>by simp only[PatsV]at h
 | _::_,[],h=>by simp only[PatsV]at h
 | x::l,v::vs,h=>by
  simp only[PatsV]at h;simp[PatsV.len h.2]
def UnitC (d:Nat):Prop:=∀(n:Int),0≤n→n+(d:Int)=9→∀(pb B:Nat) (w:World) (l:List Cae.Tok),PS pb B w l→Pc 166 [.pointer (some ⟨pb,0,none⟩),.int .i64 n] pb B w l (unitP d) (fun w' r x=>PatV (·<w.heap.size) w' r x)
def AgainC (d:Nat):Prop:=∀(n:Int),0≤n→n+(d:Int)=9→∀(pb B:Nat) (w:World) (l:List Cae.Tok),PS pb B w l→Pc 120 [.pointer (some ⟨pb,0,none⟩),.int .i64 n] pb B w l (againW d (unitP d)) (fun w' r x=>PatV (·<w.heap.size) w' r x)
def RowC (d:Nat):Prop:=∀(n:Int),0≤n→n+(d:Int)=9→∀(pb B:Nat) (w:World) (l:List Cae.Tok),PS pb B w l→Pc 93 [.pointer (some ⟨pb,0,none⟩),.int .i64 n] pb B w l (rowW (againW d (unitP d))) (fun w' r x=>PatV (·<w.heap.size) w' r x)
def PatC (d:Nat):Prop:=∀(n:Int),0≤n→n+(d:Int)=9→∀(pb B:Nat) (w:World) (l:List Cae.Tok),PS pb B w l→Pc 61 [.pointer (some ⟨pb,0,none⟩),.int .i64 n] pb B w l (patP d) (fun w' r x=>PatV (·<w.heap.size) w' r x)
theorem unit_zero:UnitC 0:=by
 intro n hn0 hn pb B w l h;refine fun2_of_vc Tryz.func166 rfl (by kernel_rfl) [.tmp 4] rfl ?_;push_cast -dsimp(maxSteps:=4000000) [Tryz.ntmps166];refine callP_of (deep_c n h) ?_ ?_
 ·rintro _ _ ⟨h8,rfl,rfl⟩;omega
 ·rintro c w' ⟨h8,ht,hb⟩;push_cast -dsimp;exact⟨4,_,rfl,ht,Kept.of_below hb (fun i h1 h2=>by omega)⟩
theorem unit_succ (d:Nat)(ihp:PatC d):UnitC (d+1):=by
 intro n hn0 hn pb B w l0 h0;obtain⟨t,r,hl0⟩:=h0.tl.cons;have hhd:Cae.hd l0=t:=by rw[hl0];rfl
 have h0':=h0;rw[hl0]at h0';obtain⟨b,o,c,hB,hc,hne,c0,c1,c2,c3⟩:=h0'.hd;have cb:w.cell? ⟨pb,0,none⟩=some (.slice (some ⟨b,o,none⟩) (r.length+1) c):=hB.cell rfl;have hle:=h0.le;have hlt:=h0.lt;have hunf:unitP (d+1) l0=pif (seeP [46]) (Cae.pb popP fun _=>pr .any)
  (pif (seeP [36]) (Cae.pb popP fun _=>pr .edge)
  (pif (seeP [40]) (Cae.pb popP fun _=>Cae.pb (patP d) fun x=>Cae.pb (mustP [41]) fun _=>pr x)
  (pif unitStart (Cae.pb (oneP (d+1)) fun k=>pr (.one k)) (pfail 3)))) l0:=rfl
 refine fun2_of_vc Tryz.func166 rfl (by kernel_rfl) [.tmp 4] rfl ?_;push_cast -dsimp(maxSteps:=4000000) [Tryz.ntmps166];refine callP_of (deep_c n h0) ?_ (fun c w' hh=>by have:=hh.1;omega);rintro _ w0 ⟨h8,rfl,hw0⟩;obtain rfl:w=w0:=hw0.symm;push_cast -dsimp;refine callK_of (take_c [46] h0) ?_;rintro _ w2 hT;rcases hT with ⟨hs1,rfl,t1,r1,el1,h51,P2,kt,hz⟩|⟨hs1,rfl,hww⟩
 ·have hpop:popP l0=.ok ((),r1):=by rw[el1];exact popP_cons h51
  push_cast -dsimp;refine boxK_of ?_;intro w3 hw3;have B3:Blk w3 w2.heap.size 129 [.int .i64 2,.pointer none,.slice none 0 0,.int .i64 0,.int .i64 0]:=hw3.blk;have P3:=P2.below hw3.below;have k3:=kt.trans (Kept.new (X:=(·=pb)) hw3) (fun i _ h=>h);push_cast -dsimp;refine⟨.any,r1,?_,?_,P3,k3⟩
  ·rw[hunf];unfold pif;rw[hs1,if_pos rfl,pb_of hpop];rfl
  ·simp only[PatV];exact⟨_,rfl,by omega,B3⟩
 ·obtain rfl:w=w2:=hww.symm;push_cast -dsimp;refine callK_of (take_c [36] h0) ?_;rintro _ w2 hT;rcases hT with ⟨hs2,rfl,t1,r1,el1,h51,P2,kt,hz⟩|⟨hs2,rfl,hww⟩
  ·have hpop:popP l0=.ok ((),r1):=by rw[el1];exact popP_cons h51
   push_cast -dsimp;refine boxK_of ?_;intro w3 hw3;have B3:Blk w3 w2.heap.size 129 [.int .i64 3,.pointer none,.slice none 0 0,.int .i64 0,.int .i64 0]:=hw3.blk;have P3:=P2.below hw3.below;have k3:=kt.trans (Kept.new (X:=(·=pb)) hw3) (fun i _ h=>h);push_cast -dsimp;refine⟨.edge,r1,?_,?_,P3,k3⟩
   ·rw[hunf];unfold pif;rw[hs1,hs2,if_neg (by decide),if_pos rfl,pb_of hpop];rfl
   ·simp only[PatV];exact⟨_,rfl,by omega,B3⟩
  ·obtain rfl:w=w2:=hww.symm;push_cast -dsimp;refine callK_of (take_c [40] h0) ?_;rintro _ w2 hT;rcases hT with ⟨hs3,rfl,t1,r1,el1,h51,P2,kt,hz⟩|⟨hs3,rfl,hww⟩
   ·have hpop:popP l0=.ok ((),r1):=by rw[el1];exact popP_cons h51
    have hred:unitP (d+1) l0=Cae.pb (patP d) (fun x=>Cae.pb (mustP [41]) fun _=>pr x) r1:=by
     rw[hunf];unfold pif;rw[hs1,hs2,hs3,if_neg (by decide),if_neg (by decide),if_pos rfl,pb_of hpop]
    push_cast -dsimp;refine⟨⟨by omega,by omega⟩,?_⟩;refine callP_of (ihp (n+1) (by omega) (by omega) pb B w2 r1 P2) ?_ ?_
    ·rintro u w3 ⟨x,l3,e3,V3,P3,k3⟩;push_cast -dsimp;refine callP_of (must_c [41] P3) ?_ ?_
     ·rintro _ w4 ⟨_,l4,e4,rfl,P4,k4⟩;push_cast -dsimp;have z3:=k3.size;refine⟨x,l4,?_,V3.mono k4 (fun i h=>by omega) (fun i h=>by omega),P4,(kt.trans k3 (fun i _ h=>h)).trans k4 (fun i _ h=>h)⟩;rw[hred,pb_of e3,pb_of e4];rfl
     ·rintro c w4 ⟨e,pos,he,ht,hk⟩;push_cast -dsimp;have z3:=k3.size;refine⟨e,pos,?_,ht.mono (by omega),(kt.trans k3 (fun i _ h=>h)).trans hk (fun i _ h=>h)⟩;rw[hred,pb_of e3];unfold Cae.pb;rw[he]
    ·rintro c w3 ⟨e,pos,he,ht,hk⟩;push_cast -dsimp;refine⟨e,pos,?_,ht.mono (by omega),kt.trans hk (fun i _ h=>h)⟩;rw[hred];unfold Cae.pb;rw[he]
   ·obtain rfl:w=w2:=hww.symm;have hus:unitStart l0=(t.kind == 3 || namedP l0):=by unfold unitStart isKind;rw[hhd]
    push_cast -dsimp[cb,c0];have hone:unitStart l0=true→unitP (d+1) l0=Cae.pb (oneP (d+1)) (fun k=>pr (.one k)) l0:=fun hu=>by
     rw[hunf];unfold pif;rw[hs1,hs2,hs3,hu,if_neg (by decide),if_neg (by decide),if_neg (by decide),if_pos rfl]
    refine⟨by omega,fun h3=>?_,fun h3=>?_⟩
    ·refine callK_of (named_c h0) ?_;rintro _ w1 ⟨rfl,b1⟩;have P1:=h0.below b1;have k1:Kept (·=pb) w w1:=Kept.of_below b1 (fun i h1 h2=>by omega);have z1:=b1.size;have hk3:(t.kind == 3)=false:=by
      have:t.kind≠3:=fun e=>h3 (by omega);simpa using this
     rw[hk3,Bool.false_or]at hus;cases hnm:namedP l0 with
     | true =>
      have hred:=hone (by rw[hus,hnm]);push_cast -dsimp;refine callP_of (one_c (d+1) n (by omega) (by omega) pb B w1 l0 P1) ?_ ?_
      ·rintro u w3 ⟨k,l3,e3,V3,P3,k3⟩;obtain⟨ub,rfl,hub⟩:=V3.ptr;push_cast -dsimp;refine boxK_of ?_;intro w4 hw4;have B4:Blk w4 w3.heap.size 129 [.int .i64 1,.pointer (some ⟨ub,0,none⟩),.slice none 0 0,.int .i64 0,.int .i64 0]:=hw4.blk;have P4:=P3.below hw4.below;have z3:=k3.size;have k4:=(k1.trans k3 (fun i _ h=>h)).trans (Kept.new (X:=(·=pb)) hw4) (fun i _ h=>h);push_cast -dsimp;refine⟨.one k,l3,?_,?_,P4,k4⟩
       ·rw[hred,pb_of e3];rfl
       ·simp only[PatV];exact⟨_,_,rfl,by omega,B4,V3.mono (Kept.new (X:=fun _=>False) hw4) (fun _ h=>h.elim) (fun i h=>by omega)⟩
      ·rintro c w3 ⟨e,pos,he,ht,hk⟩;push_cast -dsimp;refine⟨e,pos,?_,ht.mono (by omega),k1.trans hk (fun i _ h=>h)⟩;rw[hred];unfold Cae.pb;rw[he]
     | false =>
      push_cast -dsimp;refine callP_of (fail_c 3 P1) (fun _ _ h=>h.elim) ?_;rintro c w4 ⟨ht,hb⟩;push_cast -dsimp;refine⟨3,_,?_,ht.mono (by omega),k1.trans (Kept.of_below hb (X:=(·=pb)) (fun i h1 h2=>by omega)) (fun i _ h=>h)⟩;rw[hunf];unfold pif;rw[hs1,hs2,hs3,hus,hnm,if_neg (by decide),if_neg (by decide),if_neg (by decide),if_neg (by decide)];rfl
    ·have hred:=hone (by
      have:t.kind=3:=by omega
      rw[hus,this];rfl)
     have k1:Kept (·=pb) w w:=Kept.refl _ _;have z1:w.heap.size≤w.heap.size:=Nat.le_refl _;refine callP_of (one_c (d+1) n (by omega) (by omega) pb B w l0 h0) ?_ ?_
     ·rintro u w3 ⟨k,l3,e3,V3,P3,k3⟩;obtain⟨ub,rfl,hub⟩:=V3.ptr;push_cast -dsimp;refine boxK_of ?_;intro w4 hw4;have B4:Blk w4 w3.heap.size 129 [.int .i64 1,.pointer (some ⟨ub,0,none⟩),.slice none 0 0,.int .i64 0,.int .i64 0]:=hw4.blk;have P4:=P3.below hw4.below;have z3:=k3.size;have k4:=(k1.trans k3 (fun i _ h=>h)).trans (Kept.new (X:=(·=pb)) hw4) (fun i _ h=>h);push_cast -dsimp;refine⟨.one k,l3,?_,?_,P4,k4⟩
      ·rw[hred,pb_of e3];rfl
      ·simp only[PatV];exact⟨_,_,rfl,by omega,B4,V3.mono (Kept.new (X:=fun _=>False) hw4) (fun _ h=>h.elim) (fun i h=>by omega)⟩
     ·rintro c w3 ⟨e,pos,he,ht,hk⟩;push_cast -dsimp;refine⟨e,pos,?_,ht.mono (by omega),k1.trans hk (fun i _ h=>h)⟩;rw[hred];unfold Cae.pb;rw[he]
end Go.Proofs.YtodeeahdhnjpkaaGreatDoor
end
