/- Texts of this claim, merged: Rra, Rkd, Pwd0, Mn2, Mn3, Rnm, Rlo, Chk, Bld. -/
import Derived.Test.YtodeeahdhnjpkaaGreatDoorM10
set_option maxRecDepth 100000
set_option linter.unusedSimpArgs false
set_option linter.unusedVariables false
set_option maxHeartbeats 8000000
section
namespace Cae
theorem mark_one (c:UInt8):Go.Lib.contains markL [c]=markL.contains c:=by
 have h:∀n:Fin 256,Go.Lib.contains markL [UInt8.ofNat n.val]=markL.contains (UInt8.ofNat n.val):=by decide +kernel
 have:=h ⟨c.toNat,c.toNat_lt⟩;simpa using this
theorem runP_from {f:UInt8→Bool}{s:List UInt8}{i k:Nat}(h1:i≤k)(h2:k≤s.length)(ha:∀j,i≤j→j<k→f (s.getD j 0)=true)(hs:k=s.length∨f (s.getD k 0)=false):k=i+runP f (s.drop i):=by
 have hg:∀j,(s.drop i).getD j 0=s.getD (i+j) 0:=fun j=>by simp[List.getD_eq_getElem?_getD]
 have:=runP_at f (s.drop i) (k-i) (by rw[List.length_drop];omega) (fun j hj=>by rw[hg];exact ha _ (by omega) (by omega)) (by
  rw[hg,List.length_drop,show i+(k-i)=k by omega]
  exact hs.imp (fun h=>by omega) id)
 omega
end Cae
namespace Go.Proofs.YtodeeahdhnjpkaaGreatDoor
open Go.Vc Go.Proofs Go.RowKit Cae
attribute [local irreducible] wpL callK valK unitK runK Fun Sl Vc.Own vc vcOps opK pureK
def contR_ren:Go.Shelf.Ren:=⟨fun|144=>49|143=>48|219=>82|217=>107|225=>108|224=>109|267=>110|266=>144|314=>145|n=>n,fun|9=>9|4=>4|3=>3|5=>5|46=>109|146=>209|51=>206|n=>n,fun|1=>2|n=>n⟩
theorem contR:Go.Proofs.Lays.n144 Tryz.prog contR_ren:={
 mixed:=by kernel_rfl
 f143:=Tryz.func48.trans (congrArg some (by kernel_rfl))
 f144:=Tryz.func49.trans (congrArg some (by kernel_rfl))
 f217:=Tryz.func107.trans (congrArg some (by kernel_rfl))
 f219:=Tryz.func82.trans (congrArg some (by kernel_rfl))
 f224:=Tryz.func109.trans (congrArg some (by kernel_rfl))
 f225:=Tryz.func108.trans (congrArg some (by kernel_rfl))
 f266:=Tryz.func144.trans (congrArg some (by kernel_rfl))
 f267:=Tryz.func110.trans (congrArg some (by kernel_rfl))
 f314:=Tryz.func145.trans (congrArg some (by kernel_rfl))
 t3:=Tryz.underlying3
 a3:=Tryz.isAgg3
 z3:=Tryz.sizeOf3
 v3:=Tryz.zeroValue3
 t4:=Tryz.underlying4
 a4:=Tryz.isAgg4
 z4:=Tryz.sizeOf4
 v4:=Tryz.zeroValue4
 t5:=Tryz.underlying5
 a5:=Tryz.isAgg5
 z5:=Tryz.sizeOf5
 v5:=Tryz.zeroValue5
 t9:=Tryz.underlying9
 a9:=Tryz.isAgg9
 z9:=Tryz.sizeOf9
 v9:=Tryz.zeroValue9
 t46:=Tryz.underlying109
 a46:=Tryz.isAgg109
 z46:=Tryz.sizeOf109
 v46:=Tryz.zeroValue109
 t51:=Tryz.underlying206
 a51:=Tryz.isAgg206
 z51:=Tryz.sizeOf206
 v51:=Tryz.zeroValue206
 t146:=Tryz.underlying209
 a146:=Tryz.isAgg209
 z146:=Tryz.sizeOf209
 v146:=Tryz.zeroValue209
 g1:=by kernel_rfl }
theorem markHas_c (c:UInt8)(w:World)(hm:Tv w):Fun Tryz.prog 49 [str markL,str [c]] w fun r w'=>r=.bool (markL.contains c)∧w'=w:=by
 obtain⟨m,hm⟩:=hm.mx;refine fun_of_calls Tryz.func49 (by kernel_rfl) (by kernel_rfl) ?_;refine Calls.mono (Any.strings_Contains contR ⟨markL.toArray⟩ ⟨[c].toArray⟩ m w (by show markL.toArray.size<_;decide) hm) ?_
 rintro e w' ⟨rfl,rfl⟩;exact⟨_,rfl,by rw[←mark_one],rfl⟩
theorem low_c (c:UInt8)(w:World):Fun Tryz.prog 46 [.int .u8 c.toNat] w fun r w'=>r=.bool (letterP c)∧w'=w:=by
 have h:letterP c=(decide (97≤c.toNat) && decide (c.toNat≤122)):=rfl;refine fun_of_vc Tryz.func46 rfl (by kernel_rfl) [2] rfl ?_;push_cast -dsimp(maxSteps:=4000000) [Tryz.ntmps46];refine⟨fun h1=>?_,fun h1=>?_⟩
 ·rw[h,decide_eq_true (show 97≤c.toNat by omega),Bool.true_and]
  congr 1;exact decide_eq_decide.2 (by omega)
 ·rw[h,decide_eq_false (show ¬97≤c.toNat by omega)];rfl
theorem dig_c (c:UInt8)(w:World):Fun Tryz.prog 47 [.int .u8 c.toNat] w fun r w'=>r=.bool (digitP c)∧w'=w:=by
 have h:digitP c=(decide (48≤c.toNat) && decide (c.toNat≤57)):=rfl;refine fun_of_vc Tryz.func47 rfl (by kernel_rfl) [2] rfl ?_;push_cast -dsimp(maxSteps:=4000000) [Tryz.ntmps47];refine⟨fun h1=>?_,fun h1=>?_⟩
 ·rw[h,decide_eq_true (show 48≤c.toNat by omega),Bool.true_and]
  congr 1;exact decide_eq_decide.2 (by omega)
 ·rw[h,decide_eq_false (show ¬48≤c.toNat by omega)];rfl
theorem fault_agg {w:World}(h:Gr w):cellsAt w ⟨0,0,none⟩ 0 2=some [.int .i64 0,.int .i64 (-1)]:=cellsAt_of [.int .i64 0,.int .i64 (-1)] 0 (fun j u hu=>by
  rw[Nat.zero_add,Nat.zero_add];match j,hu with
  | 0,hu=>cases hu;exact h.f0
  | 1,hu=>cases hu;exact h.f1
  | j+2,hu=>cases hu)
theorem bne_ten (c:UInt8):(c != 10)=decide (¬((c.toNat:Nat):Int)=10):=by
 have:(((c.toNat:Nat):Int)=10)↔c=10:=⟨fun h=>UInt8.toNat_inj.1 (by show c.toNat=10;omega),fun h=>by subst h;rfl⟩
 by_cases h:c=10
 ·subst h;rfl
 ·rw[decide_eq_true (p:=¬((c.toNat:Nat):Int)=10) (fun hh=>h (this.1 hh))];simpa using h
def RTokR (w:World)(s:List UInt8)(r:Value)(w':World):Prop :=
 (∃l v,tokP s=.ok l∧r=.tuple #[v,.agg #[.int .i64 0,.int .i64 (-1)]]∧Vc.Own w.heap.size 71 3 encTok w' v l) ∨
 (∃e pos:Nat,tokP s=.error (e,pos)∧e≠0∧r=.tuple #[.slice none 0 0,.agg #[.int .i64 e,.int .i64 pos]])
theorem rtokens_c (s:List UInt8)(hs:s.length≤1000000)(w:World)(hg:Gr w):Fun Tryz.prog 21 [str s] w fun r w'=>RTokR w s r w'∧Below w.heap.size w w':=by
 refine fun_of_vcC Tryz.func21 rfl (by kernel_rfl) [.tmp 2,.cell 3 28] rfl ?_;push_cast -dsimp(maxSteps:=4000000) [Tryz.ntmps21];refine allocK (z:=[.int .i64 0,.int .i64 0]) (by kernel_rfl) ?_;intro w1 hw1;have F1:Blk w1 w.heap.size 28 [.int .i64 0,.int .i64 0]:=hw1.blk;have z1:=hw1.size;have b1:=hw1.below;push_cast -dsimp;refine wpL_loopW [2,4,5,6,7,8,9,10,11,12,13,14,15,16,17,18,19,20,21,22,23,24,25,26,27,28,29,30,31,32,33,34,35,36,37,38,39,40,41,42,43,44,45,46,47,48,49,50,51,52,53,54,55,56,57,58,59,60,61,62,63,64,65,66,67,68,69,70,71,72,73,74,75,76,77,78,79,80,81,82,83,84,85,86,87,88,89,90,91,92,93,94,95,96,97,98,99,100,101,102,103,104,105,106,107,108,109,110,111,112,113,114,115,116,117,118,119,120,121,122] (fun z w'=>∃(m i:Nat) (acc:List Cae.Tok) (v:Value),z 5=.int .i64 i∧z 4=v∧i≤s.length∧(s.drop i).length<m∧acc.length≤500∧tokLoop m i (s.drop i) acc=tokP s∧Vc.Own (w.heap.size+1) 71 3 encTok w' v acc∧Blk w' w.heap.size 28 [.int .i64 0,.int .i64 0]∧Below w.heap.size w w') (fun z w'=>s.length-(intOf (z 5)).toNat) ?_ ?_
 ·exact⟨s.length+1,0,[],_,rfl,rfl,Nat.zero_le _,by simp,by simp,rfl,Vc.Own.nil (enc:=encTok) _ _ (fun _=>rfl) _,F1,b1⟩
 rintro z w' ⟨m,i,acc,v,hz5,hz4,hi,hm,hacc,hm2,hO,hF,hb⟩;obtain⟨m',rfl⟩:∃m',m=m'+1:=⟨m-1,by omega⟩;have hzb:=hb.size;obtain⟨va,vc,rfl⟩:=hO.slice;have hdl:(s.drop i).length=s.length-i:=List.length_drop;refine wpL_seqV ?_;push_cast -dsimp[hz5];refine⟨fun hlt=>?_,fun hge=>?_⟩
 ·obtain⟨c,r,hcr⟩:∃c r,s.drop i=c::r:=by
   cases hd:s.drop i with
   | nil=>rw[hd]at hdl;simp at hdl;omega
   | cons c r=>exact⟨c,r,rfl⟩
  have hget:s.getD i 0=c:=by
   have:(s.drop i).getD 0 0=c:=by rw[hcr];rfl
   rw[←this];simp[List.getD_eq_getElem?_getD]
  rw[hcr]at hm2 hm hdl;have hrl:r.length+1=s.length-i:=by simpa using hdl
  have hstep:=hm2;rw[tokLoop]at hstep;have hc32:(((c.toNat:Nat):Int)=32)↔c=32:=⟨fun h=>UInt8.toNat_inj.1 (by show c.toNat=32;omega),fun h=>by subst h;rfl⟩
  have hc10:(((c.toNat:Nat):Int)=10)↔c=10:=⟨fun h=>UInt8.toNat_inj.1 (by show c.toNat=10;omega),fun h=>by subst h;rfl⟩
  have hc35:(((c.toNat:Nat):Int)=35)↔c=35:=⟨fun h=>UInt8.toNat_inj.1 (by show c.toNat=35;omega),fun h=>by subst h;rfl⟩
  have hc91:(((c.toNat:Nat):Int)=91)↔c=91:=⟨fun h=>UInt8.toNat_inj.1 (by show c.toNat=91;omega),fun h=>by subst h;rfl⟩
  have hdr:∀k,s.drop (i+k)=(c::r).drop k:=fun k=>by rw[←hcr,List.drop_drop]
  refine wpL_blockW (wpL_seqV ?_);push_cast -dsimp[hz5,hget];refine⟨⟨by omega,by omega⟩,wpL_seqV ?_⟩;by_cases h32:((c.toNat:Nat):Int)=32
  ·rw[if_pos (.inl (hc32.1 h32))]at hstep;push_cast -dsimp[h32];refine⟨⟨by omega,by omega⟩,⟨m',i+1,acc,_,rfl,hz4,by omega,by rw[hdr 1];simp;omega,hacc,by rw[hdr 1];exact hstep,hO,hF,hb⟩,by simp only[intOf,hz5];omega⟩
  ·by_cases h10:((c.toNat:Nat):Int)=10
   ·rw[if_pos (.inr (hc10.1 h10))]at hstep;push_cast -dsimp[h32,h10];refine⟨⟨by omega,by omega⟩,⟨m',i+1,acc,_,rfl,hz4,by omega,by rw[hdr 1];simp;omega,hacc,by rw[hdr 1];exact hstep,hO,hF,hb⟩,by simp only[intOf,hz5];omega⟩
   ·rw[if_neg (fun h=>h.elim (fun h=>h32 (hc32.2 h)) (fun h=>h10 (hc10.2 h)))]at hstep;push_cast -dsimp[h32,h10];refine wpL_seqV ?_;by_cases h35:((c.toNat:Nat):Int)=35
    ·rw[if_pos (hc35.1 h35)]at hstep;have hpos:0<runP (· != 10) (c::r):=runP_pos (by rw[hc35.1 h35];decide);have hle:=runP_le (· != 10) (c::r);rw[List.length_cons]at hle;push_cast -dsimp[h35];refine wpL_cutB [5,28,29,30,31,32,33,34,35,36,37,38,39] (fun z wx=>∃k:Nat,z 5=.int .i64 k∧k=i+runP (· != 10) (c::r)∧wx=w') ?_ ?_
     ·refine wpL_loop [5,28,29,30,31,32,33,34,35,36,37,38,39] (fun z wx=>∃k:Nat,z 5=.int .i64 k∧i≤k∧k≤s.length∧(∀j,i≤j→j<k→(· != 10) (s.getD j 0)=true)∧wx=w') (fun z wx=>s.length-(intOf (z 5)).toNat) ?_ ?_
      ·exact⟨i,rfl,Nat.le_refl _,hi,fun j h1 h2=>by omega,rfl⟩
      ·rintro z2 w2 ⟨k,hz,hk1,hk2,hall,rfl⟩;have hnx:(· != 10) (s.getD k 0)=true→∀j,i≤j→j<k+1→(· != 10) (s.getD j 0)=true:=fun hb j h1 h2=>by
        by_cases h:j<k
        ·exact hall j h1 h
        ·rw[show j=k by omega];exact hb
       have hend:(k=s.length∨(· != 10) (s.getD k 0)=false)→k=i+runP (· != 10) (c::r):=fun h=>by rw[←hcr];exact runP_from hk1 hk2 hall h
       push_cast -dsimp[hz];refine⟨fun hkl=>⟨⟨by omega,by omega⟩,?_⟩,fun hkl=>⟨k,rfl,hend (.inl (by omega))⟩⟩;refine⟨fun h=>⟨⟨by omega,by omega⟩,⟨k+1,rfl,by omega,by omega,hnx ((bne_ten _).trans (decide_eq_true h))⟩,by simp only[intOf];omega⟩,fun h=>⟨k,rfl,hend (.inr ((bne_ten _).trans (decide_eq_false h)))⟩⟩
     ·rintro z2 w2 ⟨k,hz,hk,rfl⟩;push_cast -dsimp[hz];exact⟨⟨m',k,acc,_,rfl,hz4,by omega,by rw[hk,hdr];simp;omega,hacc,by rw[hk,hdr];exact hstep,hO,hF,hb⟩,by simp only[intOf,hz5];omega⟩
    ·rw[if_neg (fun h=>h35 (hc35.2 h))]at hstep;have hn:=nextT_cons c r;push_cast -dsimp[h35];refine wpL_seqV ?_;push_cast -dsimp;refine allocK (z:=[.int .i64 0,str [],.int .i64 0]) (by kernel_rfl) ?_;intro w4 hw4;have z4:=hw4.size;push_cast -dsimp;refine storeAgg (xt:=71) (n:=3) (by kernel_rfl) hw4.blk rfl (by decide) (by simp;exact⟨rfl,rfl,rfl⟩) ?_;intro w5 hw5;have hgt:∃tb,tb=w'.heap.size:=⟨_,rfl⟩;obtain⟨tb,htb⟩:=hgt;have T5:Blk w5 tb 71 [.int .i64 0,str [],.int .i64 i]:=by rw[htb];exact hw5.blk
     have z5:=hw5.size;have k5:Kept (fun _=>False) w' w5:=Kept.of_below (hw4.below.trans (hw5.kept.below (B:=w'.heap.size) (by omega) (fun i h=>by omega))) (fun i h1 h2=>by omega);rw[←htb];push_cast -dsimp;refine wpL_seqC [7,9,42,43,44,45,46,47,48,49,50,51,52,53,54,55,56,57,58,59,60,61,62,63,64,65,66,67,68,69,70,71,72,73,74,75,76,77,78,79,80,81,82,83,84,85,86,87,88,89,90,91,92,93,94,95,96,97,98,99,100,101,102] (fun z wx=>∃k n kk:Nat,z 7=.int .i64 k∧k=i+n∧nextT (c::r)=(kk,n)∧Blk wx tb 71 [.int .i64 kk,str [],.int .i64 i]∧Kept (·=tb) w5 wx) ?_ ?_
     ·push_cast -dsimp;refine callK_of (low_c c w5) ?_;rintro _ wq ⟨rfl,hwq⟩;obtain rfl:w5=wq:=hwq.symm;cases h1:letterP c with
      | true =>
       rw[h1,if_pos rfl]at hn;push_cast -dsimp;refine storeK_of T5 (by simp) rfl ?_;intro w6 hw6;have T6:Blk w6 tb 71 [.int .i64 1,str [],.int .i64 i]:=hw6.blk;have k6:=hw6.kept;push_cast -dsimp;refine wpL_cutB [7,55,56,57,58,59,60,61,62,63,64,65,66,67,68,69,70,71,72] (fun z wx=>∃k:Nat,z 7=.int .i64 k∧k=i+runP (fun c=>letterP c || digitP c) (c::r)∧wx=w6) ?_ ?_
       ·refine wpL_loop [7,55,56,57,58,59,60,61,62,63,64,65,66,67,68,69,70,71,72] (fun z wx=>∃k:Nat,z 7=.int .i64 k∧i≤k∧k≤s.length∧(∀j,i≤j→j<k→(fun c=>letterP c || digitP c) (s.getD j 0)=true)∧wx=w6) (fun z wx=>s.length-(intOf (z 7)).toNat) ?_ ?_
        ·exact⟨i,rfl,Nat.le_refl _,hi,fun j h1 h2=>by omega,rfl⟩
        ·rintro z2 w2 ⟨k,hz,hk1,hk2,hall,rfl⟩;have hnx:(fun c=>letterP c || digitP c) (s.getD k 0)=true→∀j,i≤j→j<k+1→(fun c=>letterP c || digitP c) (s.getD j 0)=true:=fun hb j h1 h2=>by
          by_cases h:j<k
          ·exact hall j h1 h
          ·rw[show j=k by omega];exact hb
         have hend:(k=s.length∨(fun c=>letterP c || digitP c) (s.getD k 0)=false)→k=i+runP (fun c=>letterP c || digitP c) (c::r):=fun h=>by rw[←hcr];exact runP_from hk1 hk2 hall h
         push_cast -dsimp[hz];refine⟨fun hkl=>⟨⟨by omega,by omega⟩,?_⟩,fun hkl=>⟨k,rfl,hend (.inl (by omega))⟩⟩;skip;refine callK_of (low_c (s.getD k 0) w2) ?_;rintro _ wq ⟨rfl,hwq⟩;obtain rfl:w2=wq:=hwq.symm;cases hl:letterP (s.getD k 0) with
         | true =>
          push_cast -dsimp;exact⟨⟨by omega,by omega⟩,⟨k+1,rfl,by omega,by omega,hnx (by show (letterP _ || digitP _)=true;rw[hl];rfl)⟩,by simp only[intOf,hz];omega⟩
         | false =>
          push_cast -dsimp;refine⟨⟨by omega,by omega⟩,?_⟩;refine callK_of (dig_c (s.getD k 0) w2) ?_;rintro _ wq ⟨rfl,hwq⟩;obtain rfl:w2=wq:=hwq.symm;cases hd:digitP (s.getD k 0) with
          | true =>
           push_cast -dsimp;exact⟨⟨by omega,by omega⟩,⟨k+1,rfl,by omega,by omega,hnx (by show (letterP _ || digitP _)=true;rw[hd,Bool.or_true])⟩,by simp only[intOf,hz];omega⟩
          | false =>
           push_cast -dsimp;exact⟨k,rfl,hend (.inr (by show (letterP _ || digitP _)=false;rw[hl,hd];rfl))⟩
       ·rintro z2 w7 ⟨k,hz,hk,rfl⟩;push_cast -dsimp[hz];exact⟨k,_,1,rfl,hk,hn,T6,k6⟩
      | false =>
       rw[h1,if_neg (by decide)]at hn;push_cast -dsimp;refine callK_of (dig_c c w5) ?_;rintro _ wq ⟨rfl,hwq⟩;obtain rfl:w5=wq:=hwq.symm;cases h2:digitP c with
       | true =>
        rw[h2,if_pos rfl]at hn;push_cast -dsimp;refine storeK_of T5 (by simp) rfl ?_;intro w6 hw6;have T6:Blk w6 tb 71 [.int .i64 2,str [],.int .i64 i]:=hw6.blk;have k6:=hw6.kept;push_cast -dsimp;refine wpL_cutB [7,77,78,79,80,81,82,83,84,85,86,87,88] (fun z wx=>∃k:Nat,z 7=.int .i64 k∧k=i+runP digitP (c::r)∧wx=w6) ?_ ?_
        ·refine wpL_loop [7,77,78,79,80,81,82,83,84,85,86,87,88] (fun z wx=>∃k:Nat,z 7=.int .i64 k∧i≤k∧k≤s.length∧(∀j,i≤j→j<k→digitP (s.getD j 0)=true)∧wx=w6) (fun z wx=>s.length-(intOf (z 7)).toNat) ?_ ?_
         ·exact⟨i,rfl,Nat.le_refl _,hi,fun j h1 h2=>by omega,rfl⟩
         ·rintro z2 w2 ⟨k,hz,hk1,hk2,hall,rfl⟩;have hnx:digitP (s.getD k 0)=true→∀j,i≤j→j<k+1→digitP (s.getD j 0)=true:=fun hb j h1 h2=>by
           by_cases h:j<k
           ·exact hall j h1 h
           ·rw[show j=k by omega];exact hb
          have hend:(k=s.length∨digitP (s.getD k 0)=false)→k=i+runP digitP (c::r):=fun h=>by rw[←hcr];exact runP_from hk1 hk2 hall h
          push_cast -dsimp[hz];refine⟨fun hkl=>⟨⟨by omega,by omega⟩,?_⟩,fun hkl=>⟨k,rfl,hend (.inl (by omega))⟩⟩;skip;refine callK_of (dig_c (s.getD k 0) w2) ?_;rintro _ wq ⟨rfl,hwq⟩;obtain rfl:w2=wq:=hwq.symm;cases hd:digitP (s.getD k 0) with
          | true =>
           push_cast -dsimp;exact⟨⟨by omega,by omega⟩,⟨k+1,rfl,by omega,by omega,hnx hd⟩,by simp only[intOf,hz];omega⟩
          | false =>
           push_cast -dsimp;exact⟨k,rfl,hend (.inr hd)⟩
        ·rintro z2 w7 ⟨k,hz,hk,rfl⟩;push_cast -dsimp[hz];exact⟨k,_,2,rfl,hk,hn,T6,k6⟩
       | false =>
        rw[h2,if_neg (by decide)]at hn;push_cast -dsimp;refine⟨fun h3=>?_,fun h3=>?_⟩
        ·rw[if_pos (hc91.1 h3)]at hn;refine storeK_of T5 (by simp) rfl ?_;intro w6 hw6;have T6:Blk w6 tb 71 [.int .i64 3,str [],.int .i64 i]:=hw6.blk;have k6:=hw6.kept;have hib:=ib_run (s:=c::r) (c:=93);push_cast -dsimp[hcr];refine⟨⟨by omega,by omega⟩,?_⟩;refine callK_of (index_s (c::r) 93 w6) ?_;rintro _ wq ⟨rfl,hwq⟩;obtain rfl:w6=wq:=hwq.symm;cases hct:(c::r).contains 93 with
         | true =>
          rw[hct,if_pos rfl]at hib hn;have hrl2:=runP_le (· != 93) (c::r);rw[List.length_cons]at hrl2;push_cast -dsimp;exact⟨fun _=>⟨⟨by omega,by omega⟩,⟨by omega,by omega⟩,i+(runP (· != 93) (c::r)+1),_,3,by rw[show (i:Int)+Lib.indexByte (c::r) 93+1=((i+(runP (· != 93) (c::r)+1):Nat):Int) by omega],rfl,hn,T6,k6⟩,fun h=>by omega⟩
         | false =>
          rw[hct,if_neg (by decide)]at hib hn;push_cast -dsimp;exact⟨fun h=>by omega,fun _=>⟨i,0,3,rfl,rfl,hn,T6,k6⟩⟩
        ·rw[if_neg (fun h=>h3 (hc91.2 h))]at hn;refine storeK_of T5 (by simp) rfl ?_;intro w6 hw6;have T6:Blk w6 tb 71 [.int .i64 4,str [],.int .i64 i]:=hw6.blk;have k6:=hw6.kept;have hone:(s.take ((i:Int)+1).toNat).drop i=[c]:=by rw[show ((i:Int)+1).toNat=i+1 by omega,List.drop_take,hcr,show i+1-i=1 by omega];rfl
         push_cast -dsimp[hone];refine⟨⟨by omega,by omega⟩,⟨by omega,by omega,by omega⟩,?_⟩;refine callK_of (markHas_c c w6 (hg.below (hb.trans (((k5.weaken (Y:=fun i=>w'.heap.size≤i) (fun i _ h=>h.elim)).trans k6 (fun i h1 h2=>by omega)).below (B:=w.heap.size) hzb (fun i h=>by omega)))).t) ?_;rintro _ wq ⟨rfl,hwq⟩;obtain rfl:w6=wq:=hwq.symm;cases hct:markL.contains c with
         | true =>
          rw[hct,if_pos rfl]at hn;push_cast -dsimp;exact⟨⟨by omega,by omega⟩,i+1,1,4,rfl,rfl,hn,T6,k6⟩
         | false =>
          rw[hct,if_neg (by decide)]at hn;push_cast -dsimp;exact⟨i,0,4,rfl,rfl,hn,T6,k6⟩
     ·rintro z2 w6 ⟨k,n,kk,hz7,hk,hn2,T6,k6⟩;refine wpL_of ?_;have hle:=nextT_le c r;rw[hn2]at hle hstep;dsimp only at hle hstep;rw[List.length_cons]at hle;have hfl:=hF.lt;have F6:=(hF.kept k5 (fun h=>h)).kept k6 (by omega);have kk6:Kept (fun i=>w'.heap.size≤i) w' w6:=(k5.weaken (fun i _ h=>h.elim)).trans k6 (fun i h1 h2=>by omega);have b6:=hb.trans (kk6.below (B:=w.heap.size) hzb (fun i h=>by omega));have z6:=k6.size;push_cast -dsimp[hz7];refine⟨fun h0=>?_,fun h0=>?_⟩;·
       refine storeAgg (xt:=28) (n:=2) (by kernel_rfl) F6 rfl (by decide) (by simp;exact⟨rfl,rfl⟩) ?_
       intro w7 hw7
       have F7:Blk w7 w.heap.size 28 [.int .i64 (3:Nat),.int .i64 i]:=hw7.blk
       have d7:cellsAt w7 ⟨w.heap.size,0,none⟩ 0 2=some [.int .i64 (3:Nat),.int .i64 i]:=F7.cellsAt
       have b7:=b6.trans (hw7.kept.below (B:=w.heap.size) (by omega) (fun i h=>by omega))
       push_cast -dsimp[d7]
       exact⟨.inr ⟨3,i,by rw[←hstep,if_pos (show n=0 by omega)],by decide,rfl⟩,b7⟩
      ·rw[if_neg (by omega)]at hstep;push_cast -dsimp[hz4];refine⟨fun h500=>?_,fun h500=>?_⟩;·
        refine storeAgg (xt:=28) (n:=2) (by kernel_rfl) F6 rfl (by decide) (by simp;exact⟨rfl,rfl⟩) ?_
        intro w7 hw7
        have F7:Blk w7 w.heap.size 28 [.int .i64 (4:Nat),.int .i64 i]:=hw7.blk
        have d7:cellsAt w7 ⟨w.heap.size,0,none⟩ 0 2=some [.int .i64 (4:Nat),.int .i64 i]:=F7.cellsAt
        have b7:=b6.trans (hw7.kept.below (B:=w.heap.size) (by omega) (fun i h=>by omega))
        push_cast -dsimp[d7]
        exact⟨.inr ⟨4,i,by rw[←hstep,if_pos (show acc.length=500 by omega)],by decide,rfl⟩,b7⟩
       ·rw[if_neg (by omega)]at hstep;have htxt:(s.take k).drop i=(c::r).take n:=by rw[List.drop_take,hcr];congr 1;omega
        have hpc:partCells [(0,Value.agg #[.int .i64 kk,str ((c::r).take n),.int .i64 i])]=[(⟨kk,(c::r).take n,i⟩:Cae.Tok)].flatMap encTok:=rfl;push_cast -dsimp[htxt];refine⟨⟨by omega,by omega,by omega⟩,?_⟩;refine storeK_of T6 (by simp) rfl ?_;intro w7 hw7;have T7:Blk w7 tb 71 [.int .i64 kk,str ((c::r).take n),.int .i64 i]:=hw7.blk;have d7:cellsAt w7 ⟨tb,0,none⟩ 0 3=some [.int .i64 kk,str ((c::r).take n),.int .i64 i]:=T7.cellsAt;have k7:=kk6.trans hw7.kept (fun i h1 h2=>by omega);have z7:=hw7.size;have b7:=hb.trans (k7.below (B:=w.heap.size) hzb (fun i h=>by omega));have F7:=F6.kept hw7.kept (by omega);have O7:=hO.keptX k7 (fun g hg h=>by have:=(hO.block g hg).2;omega);push_cast -dsimp[d7];refine rowK elI_63 rfl rfl (by omega) ?_;rw[hpc];intro w8 hw8;have hO8:=O7.new hw8;have z8:=hw8.size;have b8:=b7.trans (hw8.below.mono b7.size);have F8:=F7.below hw8.below F7.lt;push_cast -dsimp[hz4];refine appendK2 (base:=w.heap.size+1) [⟨kk,(c::r).take n,i⟩] (enc:=encTok) elI_63 hO8 (by rfl) (fun j y hy=>by rw[Nat.zero_add];exact hw8.cell hy) encTok_one (by simp only[List.length_cons,List.length_nil];omega) (by omega) ?_;intro v9 w9 hO9 hg9 hn9;have kg:=Kept.grown hg9 (X:=fun j=>(Value.slice va acc.length vc).ownBlock=some j) (fun _ h=>h);have b9:=b8.trans (kg.below (B:=w.heap.size) (by omega) (fun i h=>by have:=(hO8.block i h).1;omega));have F9:=F8.kept kg (fun h=>by have:=(hO8.block _ h).1;omega);push_cast -dsimp
        exact⟨⟨m',k,acc++[⟨kk,(c::r).take n,i⟩],v9,rfl,rfl,by omega,by rw[hk,hdr];simp;omega,by rw[List.length_append,List.length_singleton];omega,by rw[hk,hdr];exact hstep,hO9,F9,b9⟩,by simp only[intOf,hz5];omega⟩
 ·have hgw:=hg.below hb;have hend:s.drop i=[]:=List.drop_eq_nil_iff.2 (by omega);have hok:tokP s=.ok (acc++[⟨5,[],s.length⟩]):=by
   rw[←hm2,hend,tokLoop,show i=s.length by omega]
  have hpc:partCells [(0,Value.agg #[.int .i64 5,str [],.int .i64 s.length])]=[(⟨5,[],s.length⟩:Cae.Tok)].flatMap encTok:=rfl;refine wpL_draw (fun w''=>cellsAt w'' ⟨0,0,none⟩ 0 2=some [.int .i64 0,.int .i64 (-1)]) mixed (by kernel_rfl) (fault_agg (w:=w'.drew) (hgw.below (below_drewR w'))) ?_;have zd:w'.drew.heap.size=w'.heap.size:=rfl;have bd:=hb.trans ((below_drewR w').mono hzb);have hOd:=hO.keptX (Kept.refl (fun _=>False) w').drew (fun _ _ h=>h);have hFd:=hF.drew;push_cast -dsimp[hz4];refine rowK elI_63 rfl rfl (by omega) ?_;rw[hpc];intro w4 hw4;have hO4:=hOd.new hw4;have z4':=hw4.size;have b4:=bd.trans (hw4.below.mono (by omega));have F4:=hFd.below hw4.below hFd.lt;refine⟨fault_agg (hg.below b4),?_⟩;push_cast -dsimp;refine appendK2 (base:=w.heap.size+1) [⟨5,[],s.length⟩] (enc:=encTok) elI_63 hO4 (by rfl) (fun j y hy=>by rw[Nat.zero_add];exact hw4.cell hy) encTok_one (by simp only[List.length_cons,List.length_nil];omega) (by omega) ?_;intro v5 w5 hO5 hg5 hn5;have kg:=Kept.grown hg5 (X:=fun j=>(Value.slice va acc.length vc).ownBlock=some j) (fun _ h=>h);have b5:=b4.trans (kg.below (B:=w.heap.size) (by omega) (fun i h=>by have:=(hO4.block i h).1;omega));have F5:=F4.kept kg (fun h=>by have:=(hO4.block _ h).1;omega);have d5:=fault_agg (hg.below b5);have hsh:=hO5.slice;obtain⟨a5,c5,rfl⟩:=hsh;refine⟨d5,?_⟩;push_cast -dsimp[d5];refine⟨fun w'' h=>by rw[h];exact rfl,?_⟩;refine storeAgg (xt:=28) (n:=2) (by kernel_rfl) F5 rfl (by decide) (by simp;exact⟨rfl,rfl⟩) ?_;intro w6 hw6
  have F6:Blk w6 w.heap.size 28 [.int .i64 0,.int .i64 (-1)]:=hw6.blk;have d6:cellsAt w6 ⟨w.heap.size,0,none⟩ 0 2=some [.int .i64 0,.int .i64 (-1)]:=F6.cellsAt;have b6:=b5.trans (hw6.kept.below (B:=w.heap.size) b5.size (fun i h=>by omega));refine⟨fault_agg (hg.below b6),?_⟩;push_cast -dsimp[d6];exact⟨.inl ⟨_,_,hok,rfl,(hO5.keptX hw6.kept (fun g hg h=>by have:=(hO5.block g hg).1;omega)).mono (by omega)⟩,b6⟩
end Go.Proofs.YtodeeahdhnjpkaaGreatDoor
end
section
namespace Go.Proofs.YtodeeahdhnjpkaaGreatDoor
open Go.Vc Go.Proofs Go.RowKit Cae
attribute [local irreducible] wpL callK valK unitK runK Fun Sl Vc.Own vc vcOps opK pureK
def RKind (X:Nat→Prop)(B:Nat)(nm:NamesP)(k:KindP)(r:Value)(w:World):Prop:=match kindS nm k with
 | .ok s=>∃v,r=.tuple #[v,.agg #[.int .i64 0,.int .i64 (-1)]]∧Sl (fun b=>X b∧b<B) 2 (En encR) w v s∧Arg v
 | .error e=>r=.tuple #[.slice none 0 0,.agg #[.int .i64 7,.int .i64 (e:Int)]]
theorem rkind_c:∀(k:KindP),KindOk k→∀(nm:NamesP),RightN nm→∀(X:Nat→Prop) (v:Value) (b:Nat) (w:World),Gr w→KindV X w v k→NamV X w b nm →
  Fun Tryz.prog 35 [v,.map (some b)] w fun r w'=>RKind X w.heap.size nm k r w'∧Below w.heap.size w w':=by
 intro k;induction k with
 | lit pos s =>
  rintro hok nm hr X v mb w hg ⟨b,sv,rfl,hb,hB,hs,ha⟩ hm;obtain⟨sa,sc,rfl,_⟩:=hs.shape;have hlt:=hB.lt
  (refine fun_of_wLC Tryz.func35 rfl (by kernel_rfl) [.tmp 4,.cell 5 28] rfl ?_;push_cast -dsimp(maxSteps:=4000000) [Tryz.ntmps35]);refine wpL_seqV ?_;push_cast -dsimp;refine allocK (z:=[.int .i64 0,.int .i64 0]) (by kernel_rfl) ?_;intro w1 hw1;have E1:Blk w1 w.heap.size 28 [.int .i64 0,.int .i64 0]:=hw1.blk;have z1:=hw1.size;have b1:=hw1.below;have hB1:=hB.below b1 hB.lt;have d0:w1.cell? ⟨b,0,none⟩=some (.int .i64 1):=hB1.cell rfl;have d2:w1.cell? ⟨b,2,none⟩=some (.slice sa s.length sc):=hB1.cell rfl;have d2d:w1.drew.cell? ⟨b,2,none⟩=some (.slice sa s.length sc):=d2;have e2:∀w'':World,w''.cell? ⟨b,2,none⟩=some (.slice sa s.length sc)→w''.cell? ⟨b,2,none⟩=some (.slice sa s.length sc):=fun _ h=>h;push_cast -dsimp;refine wpL_seqV ?_;push_cast -dsimp[d0];have gF:=fault_agg (hg.below b1);have gFd:cellsAt w1.drew ⟨0,0,none⟩ 0 2=some [.int .i64 0,.int .i64 (-1)]:=gF;refine wpL_draw (fun w''=>w''.cell? ⟨b,2,none⟩=some (.slice sa s.length sc)∧cellsAt w'' ⟨0,0,none⟩ 0 2=some [.int .i64 0,.int .i64 (-1)]) mixed (by kernel_rfl) ⟨d2d,gFd⟩ ?_;push_cast -dsimp[d2d,gFd];refine⟨fun w'' h=>by rw[h.1];exact rfl,fun w'' h=>by rw[h.2];exact rfl,?_⟩;refine storeAgg (xt:=28) (n:=2) (by kernel_rfl) E1.drew rfl (by decide) (by simp;exact⟨rfl,rfl⟩) ?_;intro w2 hw2;have E2:Blk w2 w.heap.size 28 [.int .i64 0,.int .i64 (-1)]:=hw2.blk
  have b2:=(b1.trans ((below_drewR w1).mono (by omega))).trans (hw2.kept.below (B:=w.heap.size) (by have:w1.drew.heap.size=w1.heap.size:=rfl;omega) (fun i h=>by omega));have dE:cellsAt w2 ⟨w.heap.size,0,none⟩ 0 2=some [.int .i64 0,.int .i64 (-1)]:=E2.cellsAt;refine⟨⟨(b2.cell (by show b<_;omega)).trans (hB.cell rfl),(fault_agg (hg.below b2))⟩,?_⟩
  push_cast -dsimp[dE];refine⟨?_,b2⟩;exact⟨_,rfl,(hs.below b2).weaken (fun b hh=>hh.1),ha⟩
 | ref pos n =>
  rintro hok nm hr X v mb w hg ⟨b,rfl,hb,hB⟩ hm;have hlt:=hB.lt
  (refine fun_of_wLC Tryz.func35 rfl (by kernel_rfl) [.tmp 4,.cell 5 28] rfl ?_;push_cast -dsimp(maxSteps:=4000000) [Tryz.ntmps35]);refine wpL_seqV ?_;push_cast -dsimp;refine allocK (z:=[.int .i64 0,.int .i64 0]) (by kernel_rfl) ?_;intro w1 hw1;have E1:Blk w1 w.heap.size 28 [.int .i64 0,.int .i64 0]:=hw1.blk;have z1:=hw1.size;have b1:=hw1.below;have hB1:=hB.below b1 hB.lt;obtain⟨kvs,hM0,hA⟩:=hm;have hM:=hM0.below b1 hM0.lt;have hf:=NamV.find (n:=n) hA;have d0:w1.cell? ⟨b,0,none⟩=some (.int .i64 2):=hB1.cell rfl;have d3:w1.cell? ⟨b,3,none⟩=some (str n):=hB1.cell rfl;have d1:w1.cell? ⟨b,1,none⟩=some (.int .i64 pos):=hB1.cell rfl;have d1d:w1.drew.cell? ⟨b,1,none⟩=some (.int .i64 pos):=d1;have gF:=fault_agg (hg.below b1);have gFd:cellsAt w1.drew ⟨0,0,none⟩ 0 2=some [.int .i64 0,.int .i64 (-1)]:=gF;push_cast -dsimp;refine wpL_seqV ?_;push_cast -dsimp[d0,d3];rcases hf with ⟨f1,f2⟩|⟨s,u,f1,f2,hs,ha⟩
  ·refine lookupG_none (kt:=9) (et:=44) (z:=.slice none 0 0) (by kernel_rfl) (keyStr (by kernel_rfl)) (by kernel_rfl) hM rfl f2 ?_;push_cast -dsimp;refine wpL_draw (fun w''=>w''.cell? ⟨b,1,none⟩=some (.int .i64 pos)) mixed (by kernel_rfl) d1d ?_;push_cast -dsimp[d1d];refine⟨fun w'' h=>by rw[h];exact rfl,?_⟩;refine storeAgg (xt:=28) (n:=2) (by kernel_rfl) E1.drew rfl (by decide) (by simp;exact⟨rfl,rfl⟩) ?_;intro w2 hw2;have E2:Blk w2 w.heap.size 28 [.int .i64 7,.int .i64 pos]:=hw2.blk;have b2:=(b1.trans ((below_drewR w1).mono (by omega))).trans (hw2.kept.below (B:=w.heap.size) (by have:w1.drew.heap.size=w1.heap.size:=rfl;omega) (fun i h=>by omega));have dE:cellsAt w2 ⟨w.heap.size,0,none⟩ 0 2=some [.int .i64 7,.int .i64 pos]:=E2.cellsAt;refine⟨(b2.cell (by show b<_;omega)).trans (hB.cell rfl),?_⟩
   push_cast -dsimp[dE];refine⟨?_,b2⟩;unfold RKind;rw[show kindS nm (.ref pos n)=.error pos from by rw[kindS,f1]]
  ·refine lookupG_some (kt:=9) (et:=44) (z:=.slice none 0 0) (by kernel_rfl) (keyStr (by kernel_rfl)) (by kernel_rfl) hM rfl f2 ?_;obtain⟨_,_,rfl,_⟩:=hs.shape;push_cast -dsimp;refine wpL_draw (fun w''=>cellsAt w'' ⟨0,0,none⟩ 0 2=some [.int .i64 0,.int .i64 (-1)]) mixed (by kernel_rfl) gFd ?_;push_cast -dsimp[gFd];refine⟨fun w'' h=>by rw[h];exact rfl,?_⟩;refine storeAgg (xt:=28) (n:=2) (by kernel_rfl) E1.drew rfl (by decide) (by simp;exact⟨rfl,rfl⟩) ?_;intro w2 hw2;have E2:Blk w2 w.heap.size 28 [.int .i64 0,.int .i64 (-1)]:=hw2.blk;have b2:=(b1.trans ((below_drewR w1).mono (by omega))).trans (hw2.kept.below (B:=w.heap.size) (by have:w1.drew.heap.size=w1.heap.size:=rfl;omega) (fun i h=>by omega));have dE:cellsAt w2 ⟨w.heap.size,0,none⟩ 0 2=some [.int .i64 0,.int .i64 (-1)]:=E2.cellsAt;refine⟨fault_agg (hg.below b2),?_⟩;push_cast -dsimp[dE];refine⟨?_,b2⟩;unfold RKind;rw[show kindS nm (.ref pos n)=.ok s from by rw[kindS,f1]]
   exact⟨_,rfl,(hs.below b2).weaken (fun b hh=>hh.1),ha⟩
 | not pos k ih =>
  rintro hok nm hr X v mb w hg ⟨b,u,rfl,hb,hB,h1⟩ hm;obtain⟨b1,rfl,hb1⟩:=h1.ptr;have hlt:=hB.lt
  (refine fun_of_wLC Tryz.func35 rfl (by kernel_rfl) [.tmp 4,.cell 5 28] rfl ?_;push_cast -dsimp(maxSteps:=4000000) [Tryz.ntmps35]);refine wpL_seqV ?_;push_cast -dsimp;refine allocK (z:=[.int .i64 0,.int .i64 0]) (by kernel_rfl) ?_;intro w1 hw1;have E1:Blk w1 w.heap.size 28 [.int .i64 0,.int .i64 0]:=hw1.blk;have z1:=hw1.size;have c1:=hw1.below;have hB1:=hB.below c1 hB.lt;have d0:w1.cell? ⟨b,0,none⟩=some (.int .i64 6):=hB1.cell rfl;have d4:w1.cell? ⟨b,4,none⟩=some (.pointer (some ⟨b1,0,none⟩)):=hB1.cell rfl;push_cast -dsimp;refine wpL_seqV ?_;push_cast -dsimp[d0];refine wpL_seqV ?_;push_cast -dsimp[d4];refine callK_of (ih hok nm hr X _ mb w1 (hg.below c1) (h1.below c1) (hm.below c1)) ?_;rintro r w2 ⟨hR,c2⟩;have z2:=c2.size;have cw2:=c1.trans (c2.mono (by omega));have E2:=E1.below c2 (by omega);unfold RKind at hR;cases hk:kindS nm k with
  | error e =>
   rw[hk]at hR;have hR:r=_:=hR;subst hR;push_cast -dsimp;refine allocK (z:=[.int .i64 0,.int .i64 0]) (by kernel_rfl) ?_;intro w3 hw3;have z3:=hw3.size;push_cast -dsimp;refine storeAgg (xt:=28) (n:=2) (by kernel_rfl) hw3.blk rfl (by decide) (by simp;exact⟨rfl,rfl⟩) ?_;intro w4 hw4;have F4:Blk w4 w2.heap.size 28 [.int .i64 7,.int .i64 e]:=hw4.blk;have z4:=hw4.size;have c4:Below w2.heap.size w2 w4:=hw3.below.trans (hw4.kept.below (B:=w2.heap.size) (by omega) (fun i h=>by omega));have cw4:=cw2.trans (c4.mono (by omega));have g4:=fault_agg (hg.below cw4);have f4:cellsAt w4 ⟨w2.heap.size,0,none⟩ 0 2=some [.int .i64 7,.int .i64 e]:=F4.cellsAt;have E4:=E2.below c4 (by omega);push_cast -dsimp;refine wpL_seqV ?_;push_cast -dsimp[f4,g4];refine wpL_draw (fun w''=>cellsAt w'' ⟨w2.heap.size,0,none⟩ 0 2=some [.int .i64 7,.int .i64 e]) mixed (by kernel_rfl) f4 ?_;have f4d:cellsAt w4.drew ⟨w2.heap.size,0,none⟩ 0 2=some [.int .i64 7,.int .i64 e]:=f4;push_cast -dsimp[f4d];refine⟨fun w'' h=>by rw[h];exact rfl,?_⟩;refine storeAgg (xt:=28) (n:=2) (by kernel_rfl) E4.drew rfl (by decide) (by simp;exact⟨rfl,rfl⟩) ?_;intro w5 hw5;have E5:Blk w5 w.heap.size 28 [.int .i64 7,.int .i64 e]:=hw5.blk;have dE:cellsAt w5 ⟨w.heap.size,0,none⟩ 0 2=some [.int .i64 7,.int .i64 e]:=E5.cellsAt;have cw5:=(cw4.trans ((below_drewR w4).mono (by omega))).trans (hw5.kept.below (B:=w.heap.size) (by have:w4.drew.heap.size=w4.heap.size:=rfl;omega) (fun i h=>by omega));refine⟨(F4.drew.kept hw5.kept (by omega)).cellsAt,?_⟩
   push_cast -dsimp[dE];refine⟨?_,cw5⟩;unfold RKind;rw[show kindS nm (.not pos k)=.error e from by rw[kindS,hk]]
  | ok s =>
   rw[hk]at hR;obtain⟨v1,rfl,hs1,ha1⟩:=hR;have hrs:=kindS_right (k:=k) hr hok hk;have hle:=right_len hrs;have hsh:=hs1.shape;obtain⟨_,_,rfl,_⟩:=hsh;push_cast -dsimp;refine allocK (z:=[.int .i64 0,.int .i64 0]) (by kernel_rfl) ?_;intro w3 hw3;have z3:=hw3.size;push_cast -dsimp;refine storeAgg (xt:=28) (n:=2) (by kernel_rfl) hw3.blk rfl (by decide) (by simp;exact⟨rfl,rfl⟩) ?_;intro w4 hw4;have F4:Blk w4 w2.heap.size 28 [.int .i64 0,.int .i64 (-1)]:=hw4.blk;have z4:=hw4.size;have c4:Below w2.heap.size w2 w4:=hw3.below.trans (hw4.kept.below (B:=w2.heap.size) (by omega) (fun i h=>by omega));have cw4:=cw2.trans (c4.mono (by omega));have g4:=fault_agg (hg.below cw4);have f4:cellsAt w4 ⟨w2.heap.size,0,none⟩ 0 2=some [.int .i64 0,.int .i64 (-1)]:=F4.cellsAt;have E4:=E2.below c4 (by omega);have hB4:=hB.below cw4 hB.lt;have d6:w4.cell? ⟨b,0,none⟩=some (.int .i64 6):=hB4.cell rfl;push_cast -dsimp;refine wpL_seqV ?_;push_cast -dsimp[f4,g4];refine wpL_seqV ?_;push_cast -dsimp[d6];have g4d:cellsAt w4.drew ⟨0,0,none⟩ 0 2=some [.int .i64 0,.int .i64 (-1)]:=g4;refine wpL_draw (fun w''=>cellsAt w'' ⟨0,0,none⟩ 0 2=some [.int .i64 0,.int .i64 (-1)]) mixed (by kernel_rfl) g4 ?_;push_cast -dsimp[g4d];have zd:w4.drew.heap.size=w4.heap.size:=rfl;refine callK_of (rNot_c s (by omega) hrs _ _ w4.drew ((hs1.below c4).below (below_drewR w4))) ?_;rintro v5 w5 ⟨ho5,c5⟩;have z5:=c5.size;have cw4d:=cw4.trans ((below_drewR w4).mono (by omega));have cw5:=cw4d.trans (c5.mono (by omega))
   have g5:=fault_agg (hg.below cw5);have E5:=E4.drew.below c5 (by omega);have ha5:Arg v5:=ho5.nilArg;have hsl:=ho5.slice;obtain⟨_,_,rfl⟩:=hsl;refine⟨g5,?_⟩;push_cast -dsimp[g5];refine⟨fun w'' h=>by rw[h];exact rfl,?_⟩;refine storeAgg (xt:=28) (n:=2) (by kernel_rfl) E5 rfl (by decide) (by simp;exact⟨rfl,rfl⟩) ?_;intro w6 hw6;have E6:Blk w6 w.heap.size 28 [.int .i64 0,.int .i64 (-1)]:=hw6.blk;have dE:cellsAt w6 ⟨w.heap.size,0,none⟩ 0 2=some [.int .i64 0,.int .i64 (-1)]:=E6.cellsAt;have cw6:=cw5.trans (hw6.kept.below (B:=w.heap.size) (by omega) (fun i h=>by omega));refine⟨fault_agg (hg.below cw6),?_⟩;push_cast -dsimp[dE];refine⟨?_,cw6⟩;unfold RKind;rw[show kindS nm (.not pos k)=.ok (setNot s) from by rw[kindS,hk]]
   exact⟨_,rfl,(ho5.keptX hw6.kept (fun g hgb h=>by have:=(ho5.block g hgb).1;omega)).sl.weaken (fun b hh=>by have:=hh.2;omega),ha5⟩
 | bin c pos k r ih ih' =>
  rintro hok nm hr X v mb w hg ⟨b,u,x,rfl,hb,hB,h1,h2⟩ hm;obtain⟨b1,rfl,hb1⟩:=h1.ptr;obtain⟨b2,rfl,hb2⟩:=h2.ptr;obtain⟨hok1,hok2,hc⟩:=hok;rcases hc with rfl|rfl|rfl
  case inl =>
   have hlt:=hB.lt
   (refine fun_of_wLC Tryz.func35 rfl (by kernel_rfl) [.tmp 4,.cell 5 28] rfl ?_;push_cast -dsimp(maxSteps:=4000000) [Tryz.ntmps35]);refine wpL_seqV ?_;push_cast -dsimp;refine allocK (z:=[.int .i64 0,.int .i64 0]) (by kernel_rfl) ?_;intro w1 hw1;have E1:Blk w1 w.heap.size 28 [.int .i64 0,.int .i64 0]:=hw1.blk;have z1:=hw1.size;have c1:=hw1.below;have hB1:=hB.below c1 hB.lt;have d0:w1.cell? ⟨b,0,none⟩=some (.int .i64 3):=hB1.cell rfl;have d4:w1.cell? ⟨b,4,none⟩=some (.pointer (some ⟨b1,0,none⟩)):=hB1.cell rfl;push_cast -dsimp;refine wpL_seqV ?_;push_cast -dsimp[d0];refine wpL_seqV ?_;push_cast -dsimp[d4];refine callK_of (ih hok1 nm hr X _ mb w1 (hg.below c1) (h1.below c1) (hm.below c1)) ?_;rintro r0 w2 ⟨hR,c2⟩;have z2:=c2.size;have cw2:=c1.trans (c2.mono (by omega));have E2:=E1.below c2 (by omega);unfold RKind at hR;cases hk:kindS nm k with
   | error e =>
    rw[hk]at hR;have hR:r0=_:=hR;subst hR;push_cast -dsimp;refine allocK (z:=[.int .i64 0,.int .i64 0]) (by kernel_rfl) ?_;intro w3 hw3;have z3:=hw3.size;push_cast -dsimp;refine storeAgg (xt:=28) (n:=2) (by kernel_rfl) hw3.blk rfl (by decide) (by simp;exact⟨rfl,rfl⟩) ?_;intro w4 hw4;have F4:Blk w4 w2.heap.size 28 [.int .i64 7,.int .i64 e]:=hw4.blk;have z4:=hw4.size;have c4:Below w2.heap.size w2 w4:=hw3.below.trans (hw4.kept.below (B:=w2.heap.size) (by omega) (fun i h=>by omega));have cw4:=cw2.trans (c4.mono (by omega));have g4:=fault_agg (hg.below cw4);have f4:cellsAt w4 ⟨w2.heap.size,0,none⟩ 0 2=some [.int .i64 7,.int .i64 e]:=F4.cellsAt;have E4:=E2.below c4 (by omega);push_cast -dsimp;refine wpL_seqV ?_;push_cast -dsimp[f4,g4];refine wpL_draw (fun w''=>cellsAt w'' ⟨w2.heap.size,0,none⟩ 0 2=some [.int .i64 7,.int .i64 e]) mixed (by kernel_rfl) f4 ?_;have f4d:cellsAt w4.drew ⟨w2.heap.size,0,none⟩ 0 2=some [.int .i64 7,.int .i64 e]:=f4;push_cast -dsimp[f4d];refine⟨fun w'' h=>by rw[h];exact rfl,?_⟩;refine storeAgg (xt:=28) (n:=2) (by kernel_rfl) E4.drew rfl (by decide) (by simp;exact⟨rfl,rfl⟩) ?_;intro w5 hw5;have E5:Blk w5 w.heap.size 28 [.int .i64 7,.int .i64 e]:=hw5.blk;have dE:cellsAt w5 ⟨w.heap.size,0,none⟩ 0 2=some [.int .i64 7,.int .i64 e]:=E5.cellsAt;have cw5:=(cw4.trans ((below_drewR w4).mono (by omega))).trans (hw5.kept.below (B:=w.heap.size) (by have:w4.drew.heap.size=w4.heap.size:=rfl;omega) (fun i h=>by omega))
    refine⟨(F4.drew.kept hw5.kept (by omega)).cellsAt,?_⟩;push_cast -dsimp[dE];refine⟨?_,cw5⟩;unfold RKind;rw[show kindS nm (.bin 3 pos k r)=.error e from by rw[kindS,hk]]
   | ok s =>
    rw[hk]at hR;obtain⟨v1,rfl,hs1,ha1⟩:=hR;have hrs:=kindS_right (k:=k) hr hok1 hk;have hle:=right_len hrs;have hsh:=hs1.shape;obtain⟨_,_,rfl,_⟩:=hsh;push_cast -dsimp;refine allocK (z:=[.int .i64 0,.int .i64 0]) (by kernel_rfl) ?_;intro w3 hw3;have z3:=hw3.size;push_cast -dsimp;refine storeAgg (xt:=28) (n:=2) (by kernel_rfl) hw3.blk rfl (by decide) (by simp;exact⟨rfl,rfl⟩) ?_;intro w4 hw4;have F4:Blk w4 w2.heap.size 28 [.int .i64 0,.int .i64 (-1)]:=hw4.blk;have z4:=hw4.size;have c4:Below w2.heap.size w2 w4:=hw3.below.trans (hw4.kept.below (B:=w2.heap.size) (by omega) (fun i h=>by omega));have cw4:=cw2.trans (c4.mono (by omega));have g4:=fault_agg (hg.below cw4);have f4:cellsAt w4 ⟨w2.heap.size,0,none⟩ 0 2=some [.int .i64 0,.int .i64 (-1)]:=F4.cellsAt;have E4:=E2.below c4 (by omega);have hB4:=hB.below cw4 hB.lt;have d6:w4.cell? ⟨b,0,none⟩=some (.int .i64 3):=hB4.cell rfl;have d7:w4.cell? ⟨b,5,none⟩=some (.pointer (some ⟨b2,0,none⟩)):=hB4.cell rfl;push_cast -dsimp;refine wpL_seqV ?_;push_cast -dsimp[f4,g4];refine wpL_seqV ?_;push_cast -dsimp[d6];refine wpL_seqV ?_;push_cast -dsimp[d7];have hmT:NamV (fun b=>X b∨w.heap.size≤b) w mb nm:=by
     obtain⟨kvs,p,q⟩:=hm;exact⟨kvs,p,q.imp fun a b h=>⟨h.1,Sl.top (by decide) h.2.1,h.2.2⟩⟩
    refine callK_of (ih' hok2 nm hr _ _ mb w4 (hg.below cw4) (h2.top.below cw4) (hmT.below cw4)) ?_;rintro r5 w5 ⟨hR5,c5⟩;have z5:=c5.size;have cw5:=cw4.trans (c5.mono (by omega));have E5:=E4.below c5 (by omega);have F5:=F4.below c5 (by omega);unfold RKind at hR5;cases hk2:kindS nm r with
    | error e =>
     rw[hk2]at hR5;have hR5:r5=_:=hR5;subst hR5;push_cast -dsimp;refine storeAgg (xt:=28) (n:=2) (by kernel_rfl) F5 rfl (by decide) (by simp;exact⟨rfl,rfl⟩) ?_;intro w6 hw6;have F6:Blk w6 w2.heap.size 28 [.int .i64 7,.int .i64 e]:=hw6.blk;have z6:=hw6.size;have cw6:=cw5.trans (hw6.kept.below (B:=w.heap.size) (by omega) (fun i h=>by omega));have E6:=E5.kept hw6.kept (by omega);have f6:cellsAt w6 ⟨w2.heap.size,0,none⟩ 0 2=some [.int .i64 7,.int .i64 e]:=F6.cellsAt;have g6:=fault_agg (hg.below cw6);push_cast -dsimp;refine wpL_seqV ?_;push_cast -dsimp[f6,g6];refine wpL_draw (fun w''=>cellsAt w'' ⟨w2.heap.size,0,none⟩ 0 2=some [.int .i64 7,.int .i64 e]) mixed (by kernel_rfl) f6 ?_;have f6d:cellsAt w6.drew ⟨w2.heap.size,0,none⟩ 0 2=some [.int .i64 7,.int .i64 e]:=f6;push_cast -dsimp[f6d];refine⟨fun w'' h=>by rw[h];exact rfl,?_⟩;refine storeAgg (xt:=28) (n:=2) (by kernel_rfl) E6.drew rfl (by decide) (by simp;exact⟨rfl,rfl⟩) ?_;intro w7 hw7;have E7:Blk w7 w.heap.size 28 [.int .i64 7,.int .i64 e]:=hw7.blk;have dE:cellsAt w7 ⟨w.heap.size,0,none⟩ 0 2=some [.int .i64 7,.int .i64 e]:=E7.cellsAt;have cw7:=(cw6.trans ((below_drewR w6).mono (by omega))).trans (hw7.kept.below (B:=w.heap.size) (by have:w6.drew.heap.size=w6.heap.size:=rfl;omega) (fun i h=>by omega));refine⟨(F6.drew.kept hw7.kept (by omega)).cellsAt,?_⟩;push_cast -dsimp[dE];refine⟨?_,cw7⟩;unfold RKind;rw[show kindS nm (.bin 3 pos k r)=.error e from by rw[kindS,hk];dsimp only;rw[hk2]]
    | ok t =>
     rw[hk2]at hR5;obtain⟨v2,rfl,hs2,ha2⟩:=hR5;have hrt:=kindS_right (k:=r) hr hok2 hk2;have hle2:=right_len hrt;have hsh2:=hs2.shape;obtain⟨_,_,rfl,_⟩:=hsh2;push_cast -dsimp;refine storeAgg (xt:=28) (n:=2) (by kernel_rfl) F5 rfl (by decide) (by simp;exact⟨rfl,rfl⟩) ?_;intro w6 hw6;have F6:Blk w6 w2.heap.size 28 [.int .i64 0,.int .i64 (-1)]:=hw6.blk;have z6:=hw6.size;have cw6:=cw5.trans (hw6.kept.below (B:=w.heap.size) (by omega) (fun i h=>by omega));have c26:=(c4.trans (c5.mono (by omega))).trans (hw6.kept.below (B:=w2.heap.size) (by omega) (fun i h=>by omega));have E6:=E5.kept hw6.kept (by omega);have f6:cellsAt w6 ⟨w2.heap.size,0,none⟩ 0 2=some [.int .i64 0,.int .i64 (-1)]:=F6.cellsAt;have g6:=fault_agg (hg.below cw6);have hB6:=hB.below cw6 hB.lt;have d8:w6.cell? ⟨b,0,none⟩=some (.int .i64 3):=hB6.cell rfl;have hs1d:=((hs1.below c26).below (below_drewR w6)).weaken (X':=fun _=>False) (fun _ h=>h.elim);have hs2d:=((hs2.kept hw6.kept (fun i h=>⟨.inr (by omega),by omega⟩)).below (below_drewR w6)).weaken (X':=fun _=>False) (fun _ h=>h.elim);push_cast -dsimp;refine wpL_seqV ?_;push_cast -dsimp[f6,g6,d8];have zd:w6.drew.heap.size=w6.heap.size:=rfl;have g6d:cellsAt w6.drew ⟨0,0,none⟩ 0 2=some [.int .i64 0,.int .i64 (-1)]:=g6;refine wpL_draw (fun w''=>cellsAt w'' ⟨0,0,none⟩ 0 2=some [.int .i64 0,.int .i64 (-1)]) mixed (by kernel_rfl) g6d ?_;push_cast -dsimp[g6d];refine callK_of (rOr_c s t (by omega) (by omega) hrs hrt _ _ _ _ hs1d hs2d) ?_;rintro v7 w7 ⟨ho7,c7⟩;have z7:=c7.size
     have cw6d:=cw6.trans ((below_drewR w6).mono (by omega));have cw7:=cw6d.trans (c7.mono (by omega));have g7:=fault_agg (hg.below cw7);have E7:=E6.drew.below c7 (by omega);have ha7:Arg v7:=ho7.nilArg;have hsl:=ho7.slice;obtain⟨_,_,rfl⟩:=hsl;refine⟨g7,?_⟩;push_cast -dsimp[g7];refine⟨fun w'' h=>by rw[h];exact rfl,?_⟩;refine storeAgg (xt:=28) (n:=2) (by kernel_rfl) E7 rfl (by decide) (by simp;exact⟨rfl,rfl⟩) ?_;intro w8 hw8;have E8:Blk w8 w.heap.size 28 [.int .i64 0,.int .i64 (-1)]:=hw8.blk;have dE:cellsAt w8 ⟨w.heap.size,0,none⟩ 0 2=some [.int .i64 0,.int .i64 (-1)]:=E8.cellsAt;have cw8:=cw7.trans (hw8.kept.below (B:=w.heap.size) (by omega) (fun i h=>by omega));refine⟨fault_agg (hg.below cw8),?_⟩;push_cast -dsimp[dE];refine⟨?_,cw8⟩;unfold RKind;rw[show kindS nm (.bin 3 pos k r)=.ok (setOr s t) from by rw[kindS,hk];dsimp only;rw[hk2];rfl]
     exact⟨_,rfl,(ho7.keptX hw8.kept (fun g hgb h=>by have:=(ho7.block g hgb).1;omega)).sl.weaken (fun b hh=>by have:=hh.2;omega),ha7⟩
  case inr.inl =>
   have hlt:=hB.lt
   (refine fun_of_wLC Tryz.func35 rfl (by kernel_rfl) [.tmp 4,.cell 5 28] rfl ?_;push_cast -dsimp(maxSteps:=4000000) [Tryz.ntmps35]);refine wpL_seqV ?_;push_cast -dsimp;refine allocK (z:=[.int .i64 0,.int .i64 0]) (by kernel_rfl) ?_;intro w1 hw1;have E1:Blk w1 w.heap.size 28 [.int .i64 0,.int .i64 0]:=hw1.blk;have z1:=hw1.size;have c1:=hw1.below;have hB1:=hB.below c1 hB.lt;have d0:w1.cell? ⟨b,0,none⟩=some (.int .i64 4):=hB1.cell rfl;have d4:w1.cell? ⟨b,4,none⟩=some (.pointer (some ⟨b1,0,none⟩)):=hB1.cell rfl;push_cast -dsimp;refine wpL_seqV ?_;push_cast -dsimp[d0];refine wpL_seqV ?_;push_cast -dsimp[d4];refine callK_of (ih hok1 nm hr X _ mb w1 (hg.below c1) (h1.below c1) (hm.below c1)) ?_;rintro r0 w2 ⟨hR,c2⟩;have z2:=c2.size;have cw2:=c1.trans (c2.mono (by omega));have E2:=E1.below c2 (by omega);unfold RKind at hR;cases hk:kindS nm k with
   | error e =>
    rw[hk]at hR;have hR:r0=_:=hR;subst hR;push_cast -dsimp;refine allocK (z:=[.int .i64 0,.int .i64 0]) (by kernel_rfl) ?_;intro w3 hw3;have z3:=hw3.size;push_cast -dsimp;refine storeAgg (xt:=28) (n:=2) (by kernel_rfl) hw3.blk rfl (by decide) (by simp;exact⟨rfl,rfl⟩) ?_;intro w4 hw4;have F4:Blk w4 w2.heap.size 28 [.int .i64 7,.int .i64 e]:=hw4.blk;have z4:=hw4.size;have c4:Below w2.heap.size w2 w4:=hw3.below.trans (hw4.kept.below (B:=w2.heap.size) (by omega) (fun i h=>by omega));have cw4:=cw2.trans (c4.mono (by omega));have g4:=fault_agg (hg.below cw4);have f4:cellsAt w4 ⟨w2.heap.size,0,none⟩ 0 2=some [.int .i64 7,.int .i64 e]:=F4.cellsAt;have E4:=E2.below c4 (by omega);push_cast -dsimp;refine wpL_seqV ?_;push_cast -dsimp[f4,g4];refine wpL_draw (fun w''=>cellsAt w'' ⟨w2.heap.size,0,none⟩ 0 2=some [.int .i64 7,.int .i64 e]) mixed (by kernel_rfl) f4 ?_;have f4d:cellsAt w4.drew ⟨w2.heap.size,0,none⟩ 0 2=some [.int .i64 7,.int .i64 e]:=f4;push_cast -dsimp[f4d];refine⟨fun w'' h=>by rw[h];exact rfl,?_⟩;refine storeAgg (xt:=28) (n:=2) (by kernel_rfl) E4.drew rfl (by decide) (by simp;exact⟨rfl,rfl⟩) ?_;intro w5 hw5;have E5:Blk w5 w.heap.size 28 [.int .i64 7,.int .i64 e]:=hw5.blk;have dE:cellsAt w5 ⟨w.heap.size,0,none⟩ 0 2=some [.int .i64 7,.int .i64 e]:=E5.cellsAt;have cw5:=(cw4.trans ((below_drewR w4).mono (by omega))).trans (hw5.kept.below (B:=w.heap.size) (by have:w4.drew.heap.size=w4.heap.size:=rfl;omega) (fun i h=>by omega))
    refine⟨(F4.drew.kept hw5.kept (by omega)).cellsAt,?_⟩;push_cast -dsimp[dE];refine⟨?_,cw5⟩;unfold RKind;rw[show kindS nm (.bin 4 pos k r)=.error e from by rw[kindS,hk]]
   | ok s =>
    rw[hk]at hR;obtain⟨v1,rfl,hs1,ha1⟩:=hR;have hrs:=kindS_right (k:=k) hr hok1 hk;have hle:=right_len hrs;have hsh:=hs1.shape;obtain⟨_,_,rfl,_⟩:=hsh;push_cast -dsimp;refine allocK (z:=[.int .i64 0,.int .i64 0]) (by kernel_rfl) ?_;intro w3 hw3;have z3:=hw3.size;push_cast -dsimp;refine storeAgg (xt:=28) (n:=2) (by kernel_rfl) hw3.blk rfl (by decide) (by simp;exact⟨rfl,rfl⟩) ?_;intro w4 hw4;have F4:Blk w4 w2.heap.size 28 [.int .i64 0,.int .i64 (-1)]:=hw4.blk;have z4:=hw4.size;have c4:Below w2.heap.size w2 w4:=hw3.below.trans (hw4.kept.below (B:=w2.heap.size) (by omega) (fun i h=>by omega));have cw4:=cw2.trans (c4.mono (by omega));have g4:=fault_agg (hg.below cw4);have f4:cellsAt w4 ⟨w2.heap.size,0,none⟩ 0 2=some [.int .i64 0,.int .i64 (-1)]:=F4.cellsAt;have E4:=E2.below c4 (by omega);have hB4:=hB.below cw4 hB.lt;have d6:w4.cell? ⟨b,0,none⟩=some (.int .i64 4):=hB4.cell rfl;have d7:w4.cell? ⟨b,5,none⟩=some (.pointer (some ⟨b2,0,none⟩)):=hB4.cell rfl;push_cast -dsimp;refine wpL_seqV ?_;push_cast -dsimp[f4,g4];refine wpL_seqV ?_;push_cast -dsimp[d6];refine wpL_seqV ?_;push_cast -dsimp[d7];have hmT:NamV (fun b=>X b∨w.heap.size≤b) w mb nm:=by
     obtain⟨kvs,p,q⟩:=hm;exact⟨kvs,p,q.imp fun a b h=>⟨h.1,Sl.top (by decide) h.2.1,h.2.2⟩⟩
    refine callK_of (ih' hok2 nm hr _ _ mb w4 (hg.below cw4) (h2.top.below cw4) (hmT.below cw4)) ?_;rintro r5 w5 ⟨hR5,c5⟩;have z5:=c5.size;have cw5:=cw4.trans (c5.mono (by omega));have E5:=E4.below c5 (by omega);have F5:=F4.below c5 (by omega);unfold RKind at hR5;cases hk2:kindS nm r with
    | error e =>
     rw[hk2]at hR5;have hR5:r5=_:=hR5;subst hR5;push_cast -dsimp;refine storeAgg (xt:=28) (n:=2) (by kernel_rfl) F5 rfl (by decide) (by simp;exact⟨rfl,rfl⟩) ?_;intro w6 hw6;have F6:Blk w6 w2.heap.size 28 [.int .i64 7,.int .i64 e]:=hw6.blk;have z6:=hw6.size;have cw6:=cw5.trans (hw6.kept.below (B:=w.heap.size) (by omega) (fun i h=>by omega));have E6:=E5.kept hw6.kept (by omega);have f6:cellsAt w6 ⟨w2.heap.size,0,none⟩ 0 2=some [.int .i64 7,.int .i64 e]:=F6.cellsAt;have g6:=fault_agg (hg.below cw6);push_cast -dsimp;refine wpL_seqV ?_;push_cast -dsimp[f6,g6];refine wpL_draw (fun w''=>cellsAt w'' ⟨w2.heap.size,0,none⟩ 0 2=some [.int .i64 7,.int .i64 e]) mixed (by kernel_rfl) f6 ?_;have f6d:cellsAt w6.drew ⟨w2.heap.size,0,none⟩ 0 2=some [.int .i64 7,.int .i64 e]:=f6;push_cast -dsimp[f6d];refine⟨fun w'' h=>by rw[h];exact rfl,?_⟩;refine storeAgg (xt:=28) (n:=2) (by kernel_rfl) E6.drew rfl (by decide) (by simp;exact⟨rfl,rfl⟩) ?_;intro w7 hw7;have E7:Blk w7 w.heap.size 28 [.int .i64 7,.int .i64 e]:=hw7.blk;have dE:cellsAt w7 ⟨w.heap.size,0,none⟩ 0 2=some [.int .i64 7,.int .i64 e]:=E7.cellsAt;have cw7:=(cw6.trans ((below_drewR w6).mono (by omega))).trans (hw7.kept.below (B:=w.heap.size) (by have:w6.drew.heap.size=w6.heap.size:=rfl;omega) (fun i h=>by omega));refine⟨(F6.drew.kept hw7.kept (by omega)).cellsAt,?_⟩;push_cast -dsimp[dE];refine⟨?_,cw7⟩;unfold RKind;rw[show kindS nm (.bin 4 pos k r)=.error e from by rw[kindS,hk];dsimp only;rw[hk2]]
    | ok t =>
     rw[hk2]at hR5;obtain⟨v2,rfl,hs2,ha2⟩:=hR5;have hrt:=kindS_right (k:=r) hr hok2 hk2;have hle2:=right_len hrt;have hsh2:=hs2.shape;obtain⟨_,_,rfl,_⟩:=hsh2;push_cast -dsimp;refine storeAgg (xt:=28) (n:=2) (by kernel_rfl) F5 rfl (by decide) (by simp;exact⟨rfl,rfl⟩) ?_;intro w6 hw6;have F6:Blk w6 w2.heap.size 28 [.int .i64 0,.int .i64 (-1)]:=hw6.blk;have z6:=hw6.size;have cw6:=cw5.trans (hw6.kept.below (B:=w.heap.size) (by omega) (fun i h=>by omega));have c26:=(c4.trans (c5.mono (by omega))).trans (hw6.kept.below (B:=w2.heap.size) (by omega) (fun i h=>by omega));have E6:=E5.kept hw6.kept (by omega);have f6:cellsAt w6 ⟨w2.heap.size,0,none⟩ 0 2=some [.int .i64 0,.int .i64 (-1)]:=F6.cellsAt;have g6:=fault_agg (hg.below cw6);have hB6:=hB.below cw6 hB.lt;have d8:w6.cell? ⟨b,0,none⟩=some (.int .i64 4):=hB6.cell rfl;have hs1d:=((hs1.below c26).below (below_drewR w6)).weaken (X':=fun _=>False) (fun _ h=>h.elim);have hs2d:=((hs2.kept hw6.kept (fun i h=>⟨.inr (by omega),by omega⟩)).below (below_drewR w6)).weaken (X':=fun _=>False) (fun _ h=>h.elim);push_cast -dsimp;refine wpL_seqV ?_;push_cast -dsimp[f6,g6,d8];have zd:w6.drew.heap.size=w6.heap.size:=rfl;have g6d:cellsAt w6.drew ⟨0,0,none⟩ 0 2=some [.int .i64 0,.int .i64 (-1)]:=g6;refine wpL_draw (fun w''=>cellsAt w'' ⟨0,0,none⟩ 0 2=some [.int .i64 0,.int .i64 (-1)]) mixed (by kernel_rfl) g6d ?_;push_cast -dsimp[g6d];refine callK_of (rAnd_c s t (by omega) (by omega) hrs hrt _ _ _ _ hs1d hs2d) ?_;rintro v7 w7 ⟨ho7,c7⟩;have z7:=c7.size
     have cw6d:=cw6.trans ((below_drewR w6).mono (by omega));have cw7:=cw6d.trans (c7.mono (by omega));have g7:=fault_agg (hg.below cw7);have E7:=E6.drew.below c7 (by omega);have ha7:Arg v7:=ho7.nilArg;have hsl:=ho7.slice;obtain⟨_,_,rfl⟩:=hsl;refine⟨g7,?_⟩;push_cast -dsimp[g7];refine⟨fun w'' h=>by rw[h];exact rfl,?_⟩;refine storeAgg (xt:=28) (n:=2) (by kernel_rfl) E7 rfl (by decide) (by simp;exact⟨rfl,rfl⟩) ?_;intro w8 hw8;have E8:Blk w8 w.heap.size 28 [.int .i64 0,.int .i64 (-1)]:=hw8.blk;have dE:cellsAt w8 ⟨w.heap.size,0,none⟩ 0 2=some [.int .i64 0,.int .i64 (-1)]:=E8.cellsAt;have cw8:=cw7.trans (hw8.kept.below (B:=w.heap.size) (by omega) (fun i h=>by omega));refine⟨fault_agg (hg.below cw8),?_⟩;push_cast -dsimp[dE];refine⟨?_,cw8⟩;unfold RKind;rw[show kindS nm (.bin 4 pos k r)=.ok (setAnd s t) from by rw[kindS,hk];dsimp only;rw[hk2];rfl]
     exact⟨_,rfl,(ho7.keptX hw8.kept (fun g hgb h=>by have:=(ho7.block g hgb).1;omega)).sl.weaken (fun b hh=>by have:=hh.2;omega),ha7⟩
  case inr.inr =>
   have hlt:=hB.lt
   (refine fun_of_wLC Tryz.func35 rfl (by kernel_rfl) [.tmp 4,.cell 5 28] rfl ?_;push_cast -dsimp(maxSteps:=4000000) [Tryz.ntmps35]);refine wpL_seqV ?_;push_cast -dsimp;refine allocK (z:=[.int .i64 0,.int .i64 0]) (by kernel_rfl) ?_;intro w1 hw1;have E1:Blk w1 w.heap.size 28 [.int .i64 0,.int .i64 0]:=hw1.blk;have z1:=hw1.size;have c1:=hw1.below;have hB1:=hB.below c1 hB.lt;have d0:w1.cell? ⟨b,0,none⟩=some (.int .i64 5):=hB1.cell rfl;have d4:w1.cell? ⟨b,4,none⟩=some (.pointer (some ⟨b1,0,none⟩)):=hB1.cell rfl;push_cast -dsimp;refine wpL_seqV ?_;push_cast -dsimp[d0];refine wpL_seqV ?_;push_cast -dsimp[d4];refine callK_of (ih hok1 nm hr X _ mb w1 (hg.below c1) (h1.below c1) (hm.below c1)) ?_;rintro r0 w2 ⟨hR,c2⟩;have z2:=c2.size;have cw2:=c1.trans (c2.mono (by omega));have E2:=E1.below c2 (by omega);unfold RKind at hR;cases hk:kindS nm k with
   | error e =>
    rw[hk]at hR;have hR:r0=_:=hR;subst hR;push_cast -dsimp;refine allocK (z:=[.int .i64 0,.int .i64 0]) (by kernel_rfl) ?_;intro w3 hw3;have z3:=hw3.size;push_cast -dsimp;refine storeAgg (xt:=28) (n:=2) (by kernel_rfl) hw3.blk rfl (by decide) (by simp;exact⟨rfl,rfl⟩) ?_;intro w4 hw4;have F4:Blk w4 w2.heap.size 28 [.int .i64 7,.int .i64 e]:=hw4.blk;have z4:=hw4.size;have c4:Below w2.heap.size w2 w4:=hw3.below.trans (hw4.kept.below (B:=w2.heap.size) (by omega) (fun i h=>by omega));have cw4:=cw2.trans (c4.mono (by omega));have g4:=fault_agg (hg.below cw4);have f4:cellsAt w4 ⟨w2.heap.size,0,none⟩ 0 2=some [.int .i64 7,.int .i64 e]:=F4.cellsAt;have E4:=E2.below c4 (by omega);push_cast -dsimp;refine wpL_seqV ?_;push_cast -dsimp[f4,g4];refine wpL_draw (fun w''=>cellsAt w'' ⟨w2.heap.size,0,none⟩ 0 2=some [.int .i64 7,.int .i64 e]) mixed (by kernel_rfl) f4 ?_;have f4d:cellsAt w4.drew ⟨w2.heap.size,0,none⟩ 0 2=some [.int .i64 7,.int .i64 e]:=f4;push_cast -dsimp[f4d];refine⟨fun w'' h=>by rw[h];exact rfl,?_⟩;refine storeAgg (xt:=28) (n:=2) (by kernel_rfl) E4.drew rfl (by decide) (by simp;exact⟨rfl,rfl⟩) ?_;intro w5 hw5;have E5:Blk w5 w.heap.size 28 [.int .i64 7,.int .i64 e]:=hw5.blk;have dE:cellsAt w5 ⟨w.heap.size,0,none⟩ 0 2=some [.int .i64 7,.int .i64 e]:=E5.cellsAt;have cw5:=(cw4.trans ((below_drewR w4).mono (by omega))).trans (hw5.kept.below (B:=w.heap.size) (by have:w4.drew.heap.size=w4.heap.size:=rfl;omega) (fun i h=>by omega))
    refine⟨(F4.drew.kept hw5.kept (by omega)).cellsAt,?_⟩;push_cast -dsimp[dE];refine⟨?_,cw5⟩;unfold RKind;rw[show kindS nm (.bin 5 pos k r)=.error e from by rw[kindS,hk]]
   | ok s =>
    rw[hk]at hR;obtain⟨v1,rfl,hs1,ha1⟩:=hR;have hrs:=kindS_right (k:=k) hr hok1 hk;have hle:=right_len hrs;have hsh:=hs1.shape;obtain⟨_,_,rfl,_⟩:=hsh;push_cast -dsimp;refine allocK (z:=[.int .i64 0,.int .i64 0]) (by kernel_rfl) ?_;intro w3 hw3;have z3:=hw3.size;push_cast -dsimp;refine storeAgg (xt:=28) (n:=2) (by kernel_rfl) hw3.blk rfl (by decide) (by simp;exact⟨rfl,rfl⟩) ?_;intro w4 hw4;have F4:Blk w4 w2.heap.size 28 [.int .i64 0,.int .i64 (-1)]:=hw4.blk;have z4:=hw4.size;have c4:Below w2.heap.size w2 w4:=hw3.below.trans (hw4.kept.below (B:=w2.heap.size) (by omega) (fun i h=>by omega));have cw4:=cw2.trans (c4.mono (by omega));have g4:=fault_agg (hg.below cw4);have f4:cellsAt w4 ⟨w2.heap.size,0,none⟩ 0 2=some [.int .i64 0,.int .i64 (-1)]:=F4.cellsAt;have E4:=E2.below c4 (by omega);have hB4:=hB.below cw4 hB.lt;have d6:w4.cell? ⟨b,0,none⟩=some (.int .i64 5):=hB4.cell rfl;have d7:w4.cell? ⟨b,5,none⟩=some (.pointer (some ⟨b2,0,none⟩)):=hB4.cell rfl;push_cast -dsimp;refine wpL_seqV ?_;push_cast -dsimp[f4,g4];refine wpL_seqV ?_;push_cast -dsimp[d6];refine wpL_seqV ?_;push_cast -dsimp[d7];have hmT:NamV (fun b=>X b∨w.heap.size≤b) w mb nm:=by
     obtain⟨kvs,p,q⟩:=hm;exact⟨kvs,p,q.imp fun a b h=>⟨h.1,Sl.top (by decide) h.2.1,h.2.2⟩⟩
    refine callK_of (ih' hok2 nm hr _ _ mb w4 (hg.below cw4) (h2.top.below cw4) (hmT.below cw4)) ?_;rintro r5 w5 ⟨hR5,c5⟩;have z5:=c5.size;have cw5:=cw4.trans (c5.mono (by omega));have E5:=E4.below c5 (by omega);have F5:=F4.below c5 (by omega);unfold RKind at hR5;cases hk2:kindS nm r with
    | error e =>
     rw[hk2]at hR5;have hR5:r5=_:=hR5;subst hR5;push_cast -dsimp;refine storeAgg (xt:=28) (n:=2) (by kernel_rfl) F5 rfl (by decide) (by simp;exact⟨rfl,rfl⟩) ?_;intro w6 hw6;have F6:Blk w6 w2.heap.size 28 [.int .i64 7,.int .i64 e]:=hw6.blk;have z6:=hw6.size;have cw6:=cw5.trans (hw6.kept.below (B:=w.heap.size) (by omega) (fun i h=>by omega));have E6:=E5.kept hw6.kept (by omega);have f6:cellsAt w6 ⟨w2.heap.size,0,none⟩ 0 2=some [.int .i64 7,.int .i64 e]:=F6.cellsAt;have g6:=fault_agg (hg.below cw6);push_cast -dsimp;refine wpL_seqV ?_;push_cast -dsimp[f6,g6];refine wpL_draw (fun w''=>cellsAt w'' ⟨w2.heap.size,0,none⟩ 0 2=some [.int .i64 7,.int .i64 e]) mixed (by kernel_rfl) f6 ?_;have f6d:cellsAt w6.drew ⟨w2.heap.size,0,none⟩ 0 2=some [.int .i64 7,.int .i64 e]:=f6;push_cast -dsimp[f6d];refine⟨fun w'' h=>by rw[h];exact rfl,?_⟩;refine storeAgg (xt:=28) (n:=2) (by kernel_rfl) E6.drew rfl (by decide) (by simp;exact⟨rfl,rfl⟩) ?_;intro w7 hw7;have E7:Blk w7 w.heap.size 28 [.int .i64 7,.int .i64 e]:=hw7.blk;have dE:cellsAt w7 ⟨w.heap.size,0,none⟩ 0 2=some [.int .i64 7,.int .i64 e]:=E7.cellsAt;have cw7:=(cw6.trans ((below_drewR w6).mono (by omega))).trans (hw7.kept.below (B:=w.heap.size) (by have:w6.drew.heap.size=w6.heap.size:=rfl;omega) (fun i h=>by omega));refine⟨(F6.drew.kept hw7.kept (by omega)).cellsAt,?_⟩;push_cast -dsimp[dE];refine⟨?_,cw7⟩;unfold RKind;rw[show kindS nm (.bin 5 pos k r)=.error e from by rw[kindS,hk];dsimp only;rw[hk2]]
    | ok t =>
     rw[hk2]at hR5;obtain⟨v2,rfl,hs2,ha2⟩:=hR5;have hrt:=kindS_right (k:=r) hr hok2 hk2;have hle2:=right_len hrt;have hsh2:=hs2.shape;obtain⟨_,_,rfl,_⟩:=hsh2;push_cast -dsimp;refine storeAgg (xt:=28) (n:=2) (by kernel_rfl) F5 rfl (by decide) (by simp;exact⟨rfl,rfl⟩) ?_;intro w6 hw6;have F6:Blk w6 w2.heap.size 28 [.int .i64 0,.int .i64 (-1)]:=hw6.blk;have z6:=hw6.size;have cw6:=cw5.trans (hw6.kept.below (B:=w.heap.size) (by omega) (fun i h=>by omega));have c26:=(c4.trans (c5.mono (by omega))).trans (hw6.kept.below (B:=w2.heap.size) (by omega) (fun i h=>by omega));have E6:=E5.kept hw6.kept (by omega);have f6:cellsAt w6 ⟨w2.heap.size,0,none⟩ 0 2=some [.int .i64 0,.int .i64 (-1)]:=F6.cellsAt;have g6:=fault_agg (hg.below cw6);have hB6:=hB.below cw6 hB.lt;have d8:w6.cell? ⟨b,0,none⟩=some (.int .i64 5):=hB6.cell rfl;have hs1d:=((hs1.below c26).below (below_drewR w6)).weaken (X':=fun _=>False) (fun _ h=>h.elim);have hs2d:=((hs2.kept hw6.kept (fun i h=>⟨.inr (by omega),by omega⟩)).below (below_drewR w6)).weaken (X':=fun _=>False) (fun _ h=>h.elim);push_cast -dsimp;refine wpL_seqV ?_;push_cast -dsimp[f6,g6,d8];have zd:w6.drew.heap.size=w6.heap.size:=rfl;have g6d:cellsAt w6.drew ⟨0,0,none⟩ 0 2=some [.int .i64 0,.int .i64 (-1)]:=g6;refine wpL_seqV ?_;push_cast -dsimp;refine wpL_draw (fun w''=>cellsAt w'' ⟨0,0,none⟩ 0 2=some [.int .i64 0,.int .i64 (-1)]) mixed (by kernel_rfl) g6d ?_;push_cast -dsimp[g6d];refine callK_of (rLess_c s t (by omega) (by omega) hrs hrt _ _ _ _ hs1d hs2d) ?_
     rintro v7 w7 ⟨ho7,c7⟩;have z7:=c7.size;have cw6d:=cw6.trans ((below_drewR w6).mono (by omega));have cw7:=cw6d.trans (c7.mono (by omega));have g7:=fault_agg (hg.below cw7);have E7:=E6.drew.below c7 (by omega);have ha7:Arg v7:=ho7.nilArg;have hsl:=ho7.slice;obtain⟨_,_,rfl⟩:=hsl;refine⟨g7,?_⟩;push_cast -dsimp[g7];refine⟨fun w'' h=>by rw[h];exact rfl,?_⟩;refine storeAgg (xt:=28) (n:=2) (by kernel_rfl) E7 rfl (by decide) (by simp;exact⟨rfl,rfl⟩) ?_;intro w8 hw8;have E8:Blk w8 w.heap.size 28 [.int .i64 0,.int .i64 (-1)]:=hw8.blk;have dE:cellsAt w8 ⟨w.heap.size,0,none⟩ 0 2=some [.int .i64 0,.int .i64 (-1)]:=E8.cellsAt;have cw8:=cw7.trans (hw8.kept.below (B:=w.heap.size) (by omega) (fun i h=>by omega));refine⟨fault_agg (hg.below cw8),?_⟩;push_cast -dsimp[dE];refine wpL_of ?_;push_cast -dsimp[dE];refine⟨?_,cw8⟩;unfold RKind;rw[show kindS nm (.bin 5 pos k r)=.ok (setLess s t) from by rw[kindS,hk];dsimp only;rw[hk2];rfl]
     exact⟨_,rfl,(ho7.keptX hw8.kept (fun g hgb h=>by have:=(ho7.block g hgb).1;omega)).sl.weaken (fun b hh=>by have:=hh.2;omega),ha7⟩
end Go.Proofs.YtodeeahdhnjpkaaGreatDoor
end
section
namespace Cae
mutual
def wd:PatP→Nat
 | .one _=>0
 | .any=>0
 | .edge=>0
 | .cat l=>Nat.max l.length (wds l)
 | .alt l=>Nat.max l.length (wds l)
 | .many x _ _=>wd x
def wds:List PatP→Nat
 | []=>0
 | x::l=>Nat.max (wd x) (wds l)
end
theorem wds_mem:∀{l:List PatP} {x:PatP},x∈l→wd x≤wds l
 | y::l,x,h=>by
  rw[wds];rcases List.mem_cons.1 h with rfl|h
  ·exact Nat.le_max_left _ _
  ·exact Nat.le_trans (wds_mem h) (Nat.le_max_right _ _)
theorem wds_le {n:Nat}:∀{l:List PatP},(∀x∈l,wd x≤n)→wds l≤n
 | [],_=>Nat.zero_le _
 | y::l,h=>by
  rw[wds];exact Nat.max_le.2 ⟨h y (List.mem_cons_self ..),wds_le fun x hx=>h x (List.mem_cons_of_mem _ hx)⟩
theorem wd_in_cat {l:List PatP}:wds l≤wd (.cat l)∧l.length≤wd (.cat l)∧∀x∈l,wd x≤wd (.cat l):=by
 rw[wd];exact⟨Nat.le_max_right _ _,Nat.le_max_left _ _,fun x hx=>Nat.le_trans (wds_mem hx) (Nat.le_max_right _ _)⟩
theorem wd_in_alt {l:List PatP}:wds l≤wd (.alt l)∧l.length≤wd (.alt l)∧∀x∈l,wd x≤wd (.alt l):=by
 rw[wd];exact⟨Nat.le_max_right _ _,Nat.le_max_left _ _,fun x hx=>Nat.le_trans (wds_mem hx) (Nat.le_max_right _ _)⟩
theorem wd_in_many {x:PatP}{lo hi:Int}:wd x≤wd (.many x lo hi):=by rw[wd];exact Nat.le_refl _
mutual
theorem wd_pn:∀x:PatP,wd x≤pn x
 | .one k=>Nat.zero_le _
 | .any=>Nat.zero_le _
 | .edge=>Nat.zero_le _
 | .cat l=>by
  rw[wd];exact Nat.max_le.2 ⟨pn_in_cat.2.1,wds_le fun x hx=>Nat.le_trans (wds_pn l x hx) (pn_in_cat.2.2 x hx)⟩
 | .alt l=>by
  rw[wd];exact Nat.max_le.2 ⟨pn_in_alt.2.1,wds_le fun x hx=>Nat.le_trans (wds_pn l x hx) (pn_in_alt.2.2 x hx)⟩
 | .many x lo hi=>by
  rw[wd];exact Nat.le_trans (wd_pn x) pn_in_many
theorem wds_pn:∀(l:List PatP) (x:PatP),x∈l→wd x≤pn x
 | [],x,h=>by cases h
 | y::l,x,h=>by
  rcases List.mem_cons.1 h with h|h
  ·rw[h];exact wd_pn y
  ·exact wds_pn l x h
end
end Cae
end
section
namespace Go.Proofs.YtodeeahdhnjpkaaGreatDoor
open Go.Vc Go.Proofs Go.RowKit Cae
attribute [local irreducible] wpL callK valK unitK runK Fun Sl Vc.Own vc vcOps opK pureK
def ErrAt (B:Nat)(o:Option (Int×Nat))(r:Value)(w:World):Prop:=match o with
 | none=>r=.nilIface
 | some (c,e)=>∃b,B≤b∧r=.iface 96 (.pointer (some ⟨b,0,none⟩))∧Blk w b 97 [.int .i64 c,.int .i64 e]
theorem ErrAt.below {B:Nat}{o:Option (Int×Nat)}{r:Value}{w w':World}(h:ErrAt B o r w)(hb:Below w.heap.size w w'):ErrAt B o r w':=by
 unfold ErrAt at h ⊢
 cases o with
 | none=>exact h
 | some p=>obtain⟨b,h1,h2,h3⟩:=h;exact⟨b,h1,h2,h3.below hb h3.lt⟩
def PatE (nm:NamesP)(x:PatP):Option (Int×Nat):=(patS nm x).map fun e=>((7:Int),e)
def ChkC (x:PatP):Prop:=PatOk x→wd x≤100000000→∀(nm:NamesP),RightN nm→∀(X:Nat→Prop) (v:Value) (b:Nat) (w:World),PatV X w v x→NamV X w b nm →
 Fun Tryz.prog 37 [v,.map (some b)] w fun r w'=>ErrAt w.heap.size (PatE nm x) r w'∧Below w.heap.size w w'
theorem chk_one (k:KindP):ChkC (.one k):=by
 intro hok hpn nm hr X v mb w hV hm;simp only[PatV]at hV;obtain⟨b,u,rfl,hb,hB,h1⟩:=hV;obtain⟨b1,rfl,hb1⟩:=h1.ptr;have d0:w.cell? ⟨b,0,none⟩=some (.int .i64 1):=hB.cell rfl;have d1:w.cell? ⟨b,1,none⟩=some (.pointer (some ⟨b1,0,none⟩)):=hB.cell rfl;simp only[PatOk]at hok;refine fun_of_vc Tryz.func37 rfl (by kernel_rfl) [4] rfl ?_;push_cast -dsimp(maxSteps:=4000000) [Tryz.ntmps37];push_cast -dsimp[d0,d1];refine callK_of (ckind_c k hok nm hr X _ mb w h1 hm) ?_;rintro r w1 ⟨hR,hb1'⟩;unfold KindRes at hR;cases hk:kindS nm k with
 | ok s =>
  rw[hk]at hR;obtain⟨v1,rfl,hs1,ha1⟩:=hR;push_cast -dsimp;refine⟨?_,hb1'⟩;unfold PatE;rw[patS,hk];rfl
 | error e =>
  rw[hk]at hR;obtain⟨eb,heb,rfl,hE⟩:=hR;push_cast -dsimp;refine⟨?_,hb1'⟩;unfold PatE;rw[patS,hk];exact⟨eb,heb,rfl,hE⟩
theorem patsS_app {nm:NamesP}:∀(a b:List PatP),patsS nm (a++b)=match patsS nm a with
  | some e=>some e
  | none=>patsS nm b
 | [],b=>by simp only[List.nil_append,patsS]
 | x::a,b=>by
  simp only[List.cons_append,patsS];cases patS nm x with
  | some e=>rfl
  | none=>exact patsS_app a b
theorem chk_parts (code lo hi:Int)(hc:code≠1)(l:List PatP)(hl:∀x∈l,ChkC x)(hok:∀x∈l,PatOk x∧wd x≤100000000)(hlen:l.length≤100000000)(nm:NamesP)(hr:RightN nm)(X:Nat→Prop)(b mb:Nat)(pv sv:Value)(vs:List Nat)(w:World)
  (hB:Blk w b 129 [.int .i64 code,pv,sv,.int .i64 lo,.int .i64 hi]) (hs:Sl X 1 (En encP) w sv vs) (hV:PatsV X w vs l) (hm:NamV X w mb nm) :
  Fun Tryz.prog 37 [.pointer (some ⟨b,0,none⟩),.map (some mb)] w fun r w'=>ErrAt w.heap.size ((patsS nm l).map fun e=>((7:Int),e)) r w'∧Below w.heap.size w w':=by
 have hvl:=hV.len;obtain⟨sa,sc,rfl,hsc⟩:=hs.shape;have d0:w.cell? ⟨b,0,none⟩=some (.int .i64 code):=hB.cell rfl;have d2:w.cell? ⟨b,2,none⟩=some (.slice sa vs.length sc):=hB.cell rfl;refine fun_of_vc Tryz.func37 rfl (by kernel_rfl) [4] rfl ?_;push_cast -dsimp(maxSteps:=4000000) [Tryz.ntmps37];push_cast -dsimp[d0,d2];refine⟨fun h=>absurd h hc,fun _=>?_⟩;refine wpL_loop [4,8,9,30,31,32,33,34,35,36,37,38,39,40] (fun z wx=>∃(i:Nat),z 30=.int .i64 i∧i≤l.length∧patsS nm (l.take i)=none∧Below w.heap.size w wx) (fun z _=>l.length-(intOf (z 30)).toNat) ?_ ?_
 ·exact⟨0,rfl,Nat.zero_le _,by simp[patsS],Below.refl _ _⟩
 ·intro z wx hI;obtain⟨i,h30,hi,hno,hbx⟩:=hI;have zx:=hbx.size;push_cast -dsimp[h30];refine⟨fun hlt=>?_,fun hge=>?_⟩
  ·obtain⟨x,hx,hxm,_,ht⟩:=lt_get (l:=l) (i:=i) (by omega);obtain⟨u,hu,hVx⟩:=PatsV.nth hV hx;obtain⟨b1,o,rfl,hnb,hcell⟩:=(hs.below hbx).get hu;have c0:wx.cell? ⟨b1,o+i,none⟩=some (.pointer (some ⟨u,0,none⟩)):=by simpa[encP,ptrP] using hcell 0 _ rfl
   push_cast -dsimp[c0,Nat.mul_one];refine⟨⟨by omega,by omega⟩,?_⟩;refine callK_of (hl x hxm (hok x hxm).1 (hok x hxm).2 nm hr X _ mb wx (PatV.below hVx hbx) (hm.below hbx)) ?_;rintro r wy ⟨hE,hby⟩;have hbwy:=hbx.trans (hby.mono zx);unfold PatE at hE;cases hp:patS nm x with
   | none =>
    rw[hp]at hE;have hE:r=.nilIface:=hE;subst hE;push_cast -dsimp;refine⟨⟨by omega,by omega⟩,⟨i+1,rfl,by omega,?_,hbwy⟩,by rw[h30];simp only[intOf];omega⟩;rw[ht,patsS_app,hno];simp only[patsS,hp]
   | some e =>
    rw[hp]at hE;obtain⟨eb,heb,rfl,hEB⟩:=hE;push_cast -dsimp;refine⟨?_,hbwy⟩;have hall:patsS nm l=some e:=by
     have hsp:l=l.take (i+1)++l.drop (i+1):=(List.take_append_drop _ _).symm;rw[hsp,patsS_app,ht,patsS_app,hno];simp only[patsS,hp]
    rw[hall];exact⟨eb,by omega,rfl,hEB⟩
  ·rw[List.take_of_length_le (by omega)]at hno;refine⟨?_,hbx⟩;rw[hno];rfl
theorem chk_any:ChkC .any:=by
 intro hok hpn nm hr X v mb w hV hm;simp only[PatV]at hV;obtain⟨b,rfl,hb,hB⟩:=hV;exact(chk_parts 2 0 0 (by decide) [] (fun x h=>by cases h) (fun x h=>by cases h) (by simp) nm hr X b mb _ _ [] w hB (Sl.nil _ _ _ _ _ _) (by simp only[PatsV]) hm).mono fun r w' ⟨h1,h2⟩=>⟨by simpa[PatE,patS,patsS] using h1,h2⟩
theorem chk_edge:ChkC .edge:=by
 intro hok hpn nm hr X v mb w hV hm;simp only[PatV]at hV;obtain⟨b,rfl,hb,hB⟩:=hV;exact(chk_parts 3 0 0 (by decide) [] (fun x h=>by cases h) (fun x h=>by cases h) (by simp) nm hr X b mb _ _ [] w hB (Sl.nil _ _ _ _ _ _) (by simp only[PatsV]) hm).mono fun r w' ⟨h1,h2⟩=>⟨by simpa[PatE,patS,patsS] using h1,h2⟩
theorem chk_cat (l:List PatP)(hl:∀x∈l,ChkC x):ChkC (.cat l):=by
 intro hok hpn nm hr X v mb w hV hm;simp only[PatV]at hV;obtain⟨b,sv,vs,rfl,hb,hB,hs,hV⟩:=hV;have hpc:=wd_in_cat (l:=l);simp only[PatOk]at hok;exact(chk_parts 4 0 0 (by decide) l hl (fun x h=>⟨patsOk_mem hok h,by have:=hpc.2.2 x h;omega⟩) (by have:=hpc.2.1;omega) nm hr X b mb _ sv vs w hB hs hV hm).mono fun r w' ⟨h1,h2⟩=>⟨by simpa[PatE,patS] using h1,h2⟩
theorem chk_alt (l:List PatP)(hl:∀x∈l,ChkC x):ChkC (.alt l):=by
 intro hok hpn nm hr X v mb w hV hm;simp only[PatV]at hV;obtain⟨b,sv,vs,rfl,hb,hB,hs,hV⟩:=hV;have hpc:=wd_in_alt (l:=l);simp only[PatOk]at hok;exact(chk_parts 5 0 0 (by decide) l hl (fun x h=>⟨patsOk_mem hok h,by have:=hpc.2.2 x h;omega⟩) (by have:=hpc.2.1;omega) nm hr X b mb _ sv vs w hB hs hV hm).mono fun r w' ⟨h1,h2⟩=>⟨by simpa[PatE,patS] using h1,h2⟩
theorem chk_many (x:PatP)(lo hi:Int)(hx:ChkC x):ChkC (.many x lo hi):=by
 intro hok hpn nm hr X v mb w hV hm;simp only[PatV]at hV;obtain⟨b,sv,u,rfl,hb,hB,hs,hV⟩:=hV;have hpm:=wd_in_many (x:=x) (lo:=lo) (hi:=hi);simp only[PatOk]at hok;refine(chk_parts 6 lo hi (by decide) [x] (fun y h=>by rw[List.mem_singleton]at h;rw[h];exact hx) (fun y h=>by rw[List.mem_singleton]at h;rw[h];exact⟨hok.1,by omega⟩) (by simp) nm hr X b mb _ sv [u] w hB hs (by simp only[PatsV];exact⟨hV,trivial⟩) hm).mono fun r w' ⟨h1,h2⟩=>⟨?_,h2⟩;have e:patsS nm [x]=patS nm x:=by
  simp only[patsS];cases patS nm x<;>rfl
 rw[e]at h1;simpa[PatE,patS] using h1
mutual
theorem chk_c:∀x,ChkC x
 | .one k=>chk_one k
 | .any=>chk_any
 | .edge=>chk_edge
 | .cat l=>chk_cat l (chks_c l)
 | .alt l=>chk_alt l (chks_c l)
 | .many x lo hi=>chk_many x lo hi (chk_c x)
theorem chks_c:∀(l:List PatP) (x:PatP),x∈l→ChkC x
 | [],x,h=>by cases h
 | y::l,x,h=>by
  have hy:=chk_c y;rcases List.mem_cons.1 h with h|h
  ·rw[h];exact hy
  ·exact chks_c l x h
end
def errN (p:Nat×Nat):Int×Nat:=(if p.1=5 then 9 else 7,p.2)
def NamesRes (X:Nat→Prop)(B:Nat)(f:FileP)(r:Value)(w:World):Prop:=match namesS [] f.classes with
 | .ok nm=>∃mb,B≤mb∧r=.tuple #[.map (some mb),.nilIface]∧NamV (fun b=>X b∧b<B) w mb nm∧RightN nm
 | .error e=>∃v,r=.tuple #[.map none,v]∧ErrAt B (some (errN e)) v w
theorem rightN_snoc {nm:NamesP}{n:List UInt8}{s:List Rg}(h:RightN nm)(hs:setRight (-2) s=true):RightN (nm++[(n,s)]):=fun x hx=>by
 rw[List.mem_append,List.mem_singleton]at hx;rcases hx with hx|rfl
 ·exact h x hx
 ·exact hs
theorem names_step {nm:NamesP}{c:ClassP}{l:List ClassP}:namesS nm (c::l)=if (findN c.name nm).isSome then .error (5,c.pos) else match kindS nm c.kind with
  | .error e=>.error (6,e)
  | .ok s=>namesS (nm++[(c.name,s)]) l:=by
 first|(rw[namesS];done)|(rw[namesS];rfl)
theorem all2_nth {α β:Type}{R:α→β→Prop}{l:List α}{m:List β}(h:All2 R l m){i:Nat}{y:β}(hy:m[i]?=some y):∃x,l[i]?=some x∧R x y:=by
 induction h generalizing i with
 | nil=>simp at hy
 | cons h1 _ ih =>
  cases i with
  | zero=>cases hy;exact⟨_,rfl,h1⟩
  | succ i=>exact ih (by simpa using hy)
theorem names_c (f:FileP)(hok:∀c∈f.classes,KindOk c.kind)(hlen:f.classes.length≤1000000)(X:Nat→Prop)(v:Value)(w:World)(hv:FileV X w v f) :
  Fun Tryz.prog 9 [v] w fun r w'=>NamesRes X w.heap.size f r w'∧Below w.heap.size w w':=by
 obtain⟨cv,rv,cs,rs,rfl,hcs,hrs,hC,hR⟩:=hv;have hcl:=All2.len hC;obtain⟨ca,cc,rfl,hcc⟩:=hcs.shape;obtain⟨ra,rc,rfl,hrc⟩:=hrs.shape;refine fun_of_vc Tryz.func9 rfl (by kernel_rfl) [2,3] rfl ?_;push_cast -dsimp(maxSteps:=4000000) [Tryz.ntmps9];refine boxK_of ?_;intro w1 hw1;have hw1:New w w1 25 [.slice ca cs.length cc,.slice ra rs.length rc,.bool f.els]:=hw1;have z1:=hw1.size;push_cast -dsimp;refine makeMapG (key:=fun l:List UInt8=>str l) ?_;intro w2 m2 hb2 z2;have B2:=hw1.blk.below hb2 (by omega);have d2:w2.cell? ⟨w.heap.size,0,none⟩=some (.slice ca cs.length cc):=B2.cell rfl;have hbw2:=hw1.below.trans (hb2.mono (by omega));have hN:∃Xn:Nat→Prop,Xn=(fun b=>(X b∧b<w.heap.size)∨b=w1.heap.size):=⟨_,rfl⟩;obtain⟨Xn,hXn⟩:=hN;push_cast -dsimp[d2];refine wpL_loop [2,3,6,7,8,9,10,15,16,17,18,19,20,21,22,23,24,25,26,27,28,29,30,31,32,33,34,35,36,37,38,39,40,41,42,43,44,45,46] (fun z wx=>∃(i:Nat) (nm:NamesP),z 15=.int .i64 i∧i≤f.classes.length∧namesS [] f.classes=namesS nm (f.classes.drop i)∧NamV Xn wx w1.heap.size nm∧RightN nm∧Below w.heap.size w wx∧w2.heap.size≤wx.heap.size) (fun z _=>f.classes.length-(intOf (z 15)).toNat) ?_ ?_
 ·exact⟨0,[],rfl,Nat.zero_le _,rfl,⟨[],m2,.nil⟩,(fun x h=>(by cases h)),hbw2,Nat.le_refl _⟩
 ·intro z wx hI;obtain⟨i,nm,h15,hi,hnm,hNV,hRN,hbx,zx⟩:=hI;push_cast -dsimp[h15];refine⟨fun hlt=>?_,fun hge=>?_⟩
  ·obtain⟨c,hc,hcm,_,ht⟩:=lt_get (l:=f.classes) (i:=i) (by omega);obtain⟨x,hx,hxn,hxp,hxk⟩:=all2_nth hC hc;obtain⟨xn,xp,xk⟩:=x;simp only at hxn hxp hxk;subst hxn;subst hxp;obtain⟨b1,o,rfl,hnb,hcell⟩:=(hcs.below hbx).get hx;have c3:cellsAt wx ⟨b1,o+i*3,none⟩ 0 3=some [str c.name,.int .i64 c.pos,ptrP xk]:=cellsAt_of _ 0 (fun j u hu=>by simpa[encC] using hcell j u hu);have hun:ptrP xk=.pointer (some ⟨xk,0,none⟩):=rfl;rw[hun]at c3;push_cast -dsimp[c3];refine⟨⟨by omega,by omega⟩,?_⟩;refine allocK (z:=[str [],.int .i64 0,.pointer none]) (by kernel_rfl) ?_;intro wa hwa;have za:=hwa.size;push_cast -dsimp;refine storeAgg (n:=3) (by kernel_rfl) hwa.blk rfl (by simp) (by simp[Value.oneCell',str]) ?_;intro wb hwb;have zb:=hwb.size;have hbb:Below wx.heap.size wx wb:=hwa.below.trans (hwb.kept.below (by omega) (fun i h=>by omega));have hbwb:=hbx.trans (hbb.mono hbx.size);have Cb:Blk wb wx.heap.size 74 [str c.name,.int .i64 c.pos,.pointer (some ⟨xk,0,none⟩)]:=hwb.blk;have e0:wb.cell? ⟨wx.heap.size,0,none⟩=some (str c.name):=Cb.cell rfl;have e1:wb.cell? ⟨wx.heap.size,1,none⟩=some (.int .i64 c.pos):=Cb.cell rfl;have e2:wb.cell? ⟨wx.heap.size,2,none⟩=some (.pointer (some ⟨xk,0,none⟩)):=Cb.cell rfl;have hNb:=hNV.below hbb;obtain⟨kvs,hM,hA⟩:=hNb;have hf:=NamV.find (n:=c.name) hA;have hdrop:f.classes.drop i=c::f.classes.drop (i+1):=by rw[List.drop_eq_getElem?_toList_append,hc];rfl
   push_cast -dsimp[e0];rcases hf with ⟨f1,f2⟩|⟨s,u,f1,f2,hs,ha⟩
   ·refine lookupG_none (kt:=9) (et:=44) (z:=.slice none 0 0) (by kernel_rfl) (keyStr (by kernel_rfl)) (by kernel_rfl) hM rfl f2 ?_;push_cast -dsimp[e2];have hkv:KindV Xn wb (.pointer (some ⟨xk,0,none⟩)) c.kind:=(hxk.top.below hbwb).mono (Kept.refl (fun _=>False) wb) (fun _ h=>h.elim) (fun b hb=>by
     rw[hXn]at hb;rcases hb with hb|hb
     ·exact .inl hb.1
     ·exact .inr (by omega))
    refine callK_of (ckind_c c.kind (hok c hcm) nm hRN Xn _ w1.heap.size wb hkv ⟨kvs,hM,hA⟩) ?_;rintro r wd ⟨hK,hbd⟩;have zd:=hbd.size;have hbwd:=hbwb.trans (hbd.mono hbwb.size);have Cd:=Cb.below hbd Cb.lt;have g0:wd.cell? ⟨wx.heap.size,0,none⟩=some (str c.name):=Cd.cell rfl;unfold KindRes at hK;cases hks:kindS nm c.kind with
    | error e =>
     rw[hks]at hK;obtain⟨eb,heb,rfl,hE⟩:=hK;push_cast -dsimp;refine⟨?_,hbwd⟩;unfold NamesRes;rw[hnm,hdrop,names_step,f1,hks];exact⟨_,rfl,eb,by omega,rfl,hE⟩
    | ok s =>
     rw[hks]at hK;obtain⟨v1,rfl,hs1,ha1⟩:=hK;have hrs:=kindS_right (k:=c.kind) hRN (hok c hcm) hks;obtain⟨_,_,rfl,_⟩:=hs1.shape;have hMd:=hM.below hbd hM.lt;push_cast -dsimp[g0];refine updateG_new (kt:=9) (et:=44) (by kernel_rfl) (keyStr (by kernel_rfl)) hMd rfl f2 ?_;intro we hMe hke hse;have hbwe:Below w.heap.size w we:=hbwd.trans (hke.below (by omega) (fun i h=>by omega));push_cast -dsimp;refine⟨⟨by omega,by omega⟩,⟨i+1,nm++[(c.name,s)],rfl,by omega,?_,⟨_,hMe,?_⟩,rightN_snoc hRN hrs,hbwe,by omega⟩,by rw[h15];simp only[intOf];omega⟩
     ·rw[hnm,hdrop,names_step,f1,hks];rfl
     ·refine All2.snoc (hA.imp fun a b h=>⟨h.1,(h.2.1.below hbd).kept hke (fun i hi=>by rw[hXn];exact .inr hi),h.2.2⟩) ⟨rfl,(hs1.kept hke (fun i hi=>?_)).weaken (fun b hb=>?_),ha1⟩
      ·exact⟨by rw[hXn];exact .inr hi,by omega⟩
      ·refine⟨hb,?_⟩;rw[hXn]at hb;rcases hb with hb|hb
       ·omega
       ·omega
   ·refine lookupG_some (kt:=9) (et:=44) (z:=.slice none 0 0) (by kernel_rfl) (keyStr (by kernel_rfl)) (by kernel_rfl) hM rfl f2 ?_;obtain⟨_,_,rfl,_⟩:=hs.shape;push_cast -dsimp;have e1d:wb.drew.cell? ⟨wx.heap.size,1,none⟩=some (.int .i64 c.pos):=e1;refine wpL_draw (fun w'=>w'.cell? ⟨wx.heap.size,1,none⟩=some (.int .i64 c.pos)) mixed (by kernel_rfl) e1 ?_;push_cast -dsimp[e1d];refine⟨fun w'' h=>by rw[h];exact rfl,?_⟩;refine boxK_of ?_;intro wd hwd;have hwd:New wb.drew wd 97 [.int .i64 9,.int .i64 c.pos]:=hwd;have hbd:Below wb.heap.size wb wd:=((Kept.refl (fun _=>False) wb).drew.below (Nat.le_refl _) (fun _ h=>h.elim)).trans hwd.below;refine⟨(hbd.cell (by show wx.heap.size<_;omega)).trans e1,?_⟩
    push_cast -dsimp;refine⟨?_,hbwb.trans (hbd.mono hbwb.size)⟩;unfold NamesRes;rw[hnm,hdrop,names_step,f1];exact⟨_,rfl,wb.heap.size,hbwb.size,rfl,hwd.blk⟩
  ·refine⟨?_,hbx⟩;rw[List.drop_of_length_le (by omega),namesS]at hnm;unfold NamesRes;rw[hnm];obtain⟨kvs,hM,hA⟩:=hNV;exact⟨_,by omega,rfl,⟨kvs,hM,hA.imp fun a b h=>⟨h.1,h.2.1.weaken (fun b hb=>by rw[hXn];exact .inl hb),h.2.2⟩⟩,hRN⟩
def RNames (X:Nat→Prop)(B:Nat)(f:FileP)(r:Value)(w:World):Prop:=match namesS [] f.classes with
 | .ok nm=>∃mb,B≤mb∧r=.tuple #[.map (some mb),.agg #[.int .i64 0,.int .i64 (-1)]]∧NamV (fun b=>X b∧b<B) w mb nm∧RightN nm
 | .error e=>r=.tuple #[.map none,.agg #[.int .i64 (errN e).1,.int .i64 (errN e).2]]
theorem rnames_c (f:FileP)(hok:∀c∈f.classes,KindOk c.kind)(hlen:f.classes.length≤1000000)(X:Nat→Prop)(v:Value)(w:World)(hg:Gr w)(hv:FileV X w v f) :
  Fun Tryz.prog 8 [v] w fun r w'=>RNames X w.heap.size f r w'∧Below w.heap.size w w':=by
 obtain⟨cv,rv,cs,rs,rfl,hcs,hrs,hC,hR⟩:=hv;have hcl:=All2.len hC;obtain⟨ca,cc,rfl,hcc⟩:=hcs.shape;obtain⟨ra,rc,rfl,hrc⟩:=hrs.shape;refine fun_of_wLC Tryz.func8 rfl (by kernel_rfl) [.tmp 2,.cell 3 28] rfl ?_;push_cast -dsimp(maxSteps:=4000000) [Tryz.ntmps8];refine wpL_seqV ?_;push_cast -dsimp;refine boxK_of ?_;intro w1 hw1;have hw1:New w w1 25 [.slice ca cs.length cc,.slice ra rs.length rc,.bool f.els]:=hw1;have z1:=hw1.size;push_cast -dsimp;refine allocK (z:=[.int .i64 0,.int .i64 0]) (by kernel_rfl) ?_;intro wq hwq;have zq:=hwq.size;have Eq:Blk wq w1.heap.size 28 [.int .i64 0,.int .i64 0]:=hwq.blk;have hbq:=hw1.below.trans (hwq.below.mono (by omega));push_cast -dsimp;refine wpL_seqV ?_;push_cast -dsimp;refine makeMapG (key:=fun l:List UInt8=>str l) ?_;intro w2 m2 hb2 z2;have B2:=(hw1.blk.below hwq.below (by omega)).below hb2 (by omega);have E2:=Eq.below hb2 (by omega);have d2:w2.cell? ⟨w.heap.size,0,none⟩=some (.slice ca cs.length cc):=B2.cell rfl;have hbw2:=hbq.trans (hb2.mono (by omega));have hN:∃Xn:Nat→Prop,Xn=(fun b=>(X b∧b<w.heap.size)∨b=w1.heap.size∨b=wq.heap.size):=⟨_,rfl⟩;obtain⟨Xn,hXn⟩:=hN;push_cast -dsimp;refine wpL_seqV ?_;push_cast -dsimp[d2]
 refine wpL_loop [2,6,7,8,9,10,15,16,17,18,19,20,21,22,23,24,25,26,27,28,29,30,31,32,33,34,35,36,37,38,39,40,41,42,43,44,45] (fun z wx=>∃(i:Nat) (nm:NamesP),z 15=.int .i64 i∧i≤f.classes.length∧namesS [] f.classes=namesS nm (f.classes.drop i)∧NamV Xn wx wq.heap.size nm∧RightN nm∧Below w.heap.size w wx∧w2.heap.size≤wx.heap.size∧Blk wx w1.heap.size 28 [.int .i64 0,.int .i64 0]) (fun z _=>f.classes.length-(intOf (z 15)).toNat) ?_ ?_
 ·exact⟨0,[],rfl,Nat.zero_le _,rfl,⟨[],m2,.nil⟩,(fun x h=>(by cases h)),hbw2,Nat.le_refl _,E2⟩
 ·intro z wx hI;obtain⟨i,nm,h15,hi,hnm,hNV,hRN,hbx,zx,Ex⟩:=hI;push_cast -dsimp[h15];refine⟨fun hlt=>?_,fun hge=>?_⟩
  ·obtain⟨c,hc,hcm,_,ht⟩:=lt_get (l:=f.classes) (i:=i) (by omega);obtain⟨x,hx,hxn,hxp,hxk⟩:=all2_nth hC hc;obtain⟨xn,xp,xk⟩:=x;simp only at hxn hxp hxk;subst hxn;subst hxp;obtain⟨b1,o,rfl,hnb,hcell⟩:=(hcs.below hbx).get hx;have c3:cellsAt wx ⟨b1,o+i*3,none⟩ 0 3=some [str c.name,.int .i64 c.pos,ptrP xk]:=cellsAt_of _ 0 (fun j u hu=>by simpa[encC] using hcell j u hu);have hun:ptrP xk=.pointer (some ⟨xk,0,none⟩):=rfl;rw[hun]at c3;push_cast -dsimp[c3];refine⟨⟨by omega,by omega⟩,?_⟩;refine allocK (z:=[str [],.int .i64 0,.pointer none]) (by kernel_rfl) ?_;intro wa hwa;have za:=hwa.size;push_cast -dsimp;refine storeAgg (n:=3) (by kernel_rfl) hwa.blk rfl (by simp) (by simp[Value.oneCell',str]) ?_;intro wb hwb;have zb:=hwb.size;have hbb:Below wx.heap.size wx wb:=hwa.below.trans (hwb.kept.below (by omega) (fun i h=>by omega));have hbwb:=hbx.trans (hbb.mono hbx.size);have Eb:=Ex.below hbb Ex.lt;have Cb:Blk wb wx.heap.size 74 [str c.name,.int .i64 c.pos,.pointer (some ⟨xk,0,none⟩)]:=hwb.blk;have e0:wb.cell? ⟨wx.heap.size,0,none⟩=some (str c.name):=Cb.cell rfl;have e1:wb.cell? ⟨wx.heap.size,1,none⟩=some (.int .i64 c.pos):=Cb.cell rfl;have e2:wb.cell? ⟨wx.heap.size,2,none⟩=some (.pointer (some ⟨xk,0,none⟩)):=Cb.cell rfl;have hNb:=hNV.below hbb;obtain⟨kvs,hM,hA⟩:=hNb;have hf:=NamV.find (n:=c.name) hA;have hdrop:f.classes.drop i=c::f.classes.drop (i+1):=by rw[List.drop_eq_getElem?_toList_append,hc];rfl
   push_cast -dsimp[e0];rcases hf with ⟨f1,f2⟩|⟨s,u,f1,f2,hs,ha⟩
   ·refine lookupG_none (kt:=9) (et:=44) (z:=.slice none 0 0) (by kernel_rfl) (keyStr (by kernel_rfl)) (by kernel_rfl) hM rfl f2 ?_;push_cast -dsimp[e2];have hkv:KindV Xn wb (.pointer (some ⟨xk,0,none⟩)) c.kind:=(hxk.top.below hbwb).mono (Kept.refl (fun _=>False) wb) (fun _ h=>h.elim) (fun b hb=>by
     rw[hXn]at hb;rcases hb with hb|hb|hb
     ·exact .inl hb.1
     ·exact .inr (by omega)
     ·exact .inr (by omega))
    refine callK_of (rkind_c c.kind (hok c hcm) nm hRN Xn _ wq.heap.size wb (hg.below hbwb) hkv ⟨kvs,hM,hA⟩) ?_;rintro r wd ⟨hK,hbd⟩;have zd:=hbd.size;have hbwd:=hbwb.trans (hbd.mono hbwb.size);have zwd:=hbwd.size;have Ed:=Eb.below hbd (by omega);have Cd:=Cb.below hbd Cb.lt;unfold RKind at hK;cases hks:kindS nm c.kind with
    | error e =>
     rw[hks]at hK;have hK:r=_:=hK;subst hK;push_cast -dsimp;refine allocK (z:=[.int .i64 0,.int .i64 0]) (by kernel_rfl) ?_;intro we hwe;have ze:=hwe.size;push_cast -dsimp;refine storeAgg (xt:=28) (n:=2) (by kernel_rfl) hwe.blk rfl (by decide) (by simp;exact⟨rfl,rfl⟩) ?_;intro wf hwf;have Ff:Blk wf wd.heap.size 28 [.int .i64 7,.int .i64 e]:=hwf.blk;have zf:=hwf.size;have hbf:Below wd.heap.size wd wf:=hwe.below.trans (hwf.kept.below (B:=wd.heap.size) (by omega) (fun i h=>by omega));have cwf:=hbwd.trans (hbf.mono (by omega));have gf:=fault_agg (hg.below cwf);have ff:cellsAt wf ⟨wd.heap.size,0,none⟩ 0 2=some [.int .i64 7,.int .i64 e]:=Ff.cellsAt;have Ef:=Ed.below hbf (by omega);have ffd:cellsAt wf.drew ⟨wd.heap.size,0,none⟩ 0 2=some [.int .i64 7,.int .i64 e]:=ff;push_cast -dsimp[ff,gf];refine wpL_draw (fun w''=>cellsAt w'' ⟨wd.heap.size,0,none⟩ 0 2=some [.int .i64 7,.int .i64 e]) mixed (by kernel_rfl) ff ?_;push_cast -dsimp[ffd];refine⟨fun w'' h=>by rw[h];exact rfl,?_⟩;refine storeAgg (xt:=28) (n:=2) (by kernel_rfl) Ef.drew rfl (by decide) (by simp;exact⟨rfl,rfl⟩) ?_;intro w7 hw7;have E7:Blk w7 w1.heap.size 28 [.int .i64 7,.int .i64 e]:=hw7.blk;have dE:cellsAt w7 ⟨w1.heap.size,0,none⟩ 0 2=some [.int .i64 7,.int .i64 e]:=E7.cellsAt;have k7:Kept (fun i=>i=w1.heap.size) wf w7:=(Kept.refl (fun i=>i=w1.heap.size) wf).drew.trans hw7.kept (fun i _ h=>h);have cw7:=cwf.trans (k7.below (B:=w.heap.size) cwf.size (fun i h=>by omega));refine⟨(Ff.kept k7 (by omega)).cellsAt,?_⟩
     push_cast -dsimp[dE];refine⟨?_,cw7⟩;unfold RNames;rw[hnm,hdrop,names_step,f1,hks];rfl
    | ok s =>
     rw[hks]at hK;obtain⟨v1,rfl,hs1,ha1⟩:=hK;have hrs:=kindS_right (k:=c.kind) hRN (hok c hcm) hks;have hsh1:=hs1.shape;obtain⟨_,_,rfl,_⟩:=hsh1;push_cast -dsimp;refine allocK (z:=[.int .i64 0,.int .i64 0]) (by kernel_rfl) ?_;intro we hwe;have ze:=hwe.size;push_cast -dsimp;refine storeAgg (xt:=28) (n:=2) (by kernel_rfl) hwe.blk rfl (by decide) (by simp;exact⟨rfl,rfl⟩) ?_;intro wf hwf;have Ff:Blk wf wd.heap.size 28 [.int .i64 0,.int .i64 (-1)]:=hwf.blk;have zf:=hwf.size;have hbf:Below wd.heap.size wd wf:=hwe.below.trans (hwf.kept.below (B:=wd.heap.size) (by omega) (fun i h=>by omega));have cwf:=hbwd.trans (hbf.mono (by omega));have gf:=fault_agg (hg.below cwf);have ff:cellsAt wf ⟨wd.heap.size,0,none⟩ 0 2=some [.int .i64 0,.int .i64 (-1)]:=Ff.cellsAt;have Ef:=Ed.below hbf (by omega);have Cf:=Cd.below hbf (by omega);have g0:wf.cell? ⟨wx.heap.size,0,none⟩=some (str c.name):=Cf.cell rfl;have hMf:=(hM.below hbd hM.lt).below hbf (by have:=hM.lt;omega);push_cast -dsimp[ff,gf,g0];refine updateG_new (kt:=9) (et:=44) (by kernel_rfl) (keyStr (by kernel_rfl)) hMf rfl f2 ?_;intro wg hMe hke hse;have hbwe:Below w.heap.size w wg:=cwf.trans (hke.below (by omega) (fun i h=>by omega));push_cast -dsimp;refine⟨⟨by omega,by omega⟩,⟨i+1,nm++[(c.name,s)],rfl,by omega,?_,⟨_,hMe,?_⟩,rightN_snoc hRN hrs,hbwe,by omega,Ef.kept hke (by omega)⟩,by rw[h15];simp only[intOf];omega⟩
     ·rw[hnm,hdrop,names_step,f1,hks];rfl
     ·have hbdf:=hbd.trans (hbf.mono (by omega));refine All2.snoc (hA.imp fun a b h=>⟨h.1,(h.2.1.below hbdf).kept hke (fun i hi=>by rw[hXn];exact .inr (.inr hi)),h.2.2⟩) ⟨rfl,((hs1.below hbf).kept hke (fun i hi=>?_)).weaken (fun b hb=>?_),ha1⟩
      ·exact⟨by rw[hXn];exact .inr (.inr hi),by omega⟩
      ·refine⟨hb,?_⟩;rw[hXn]at hb;rcases hb with hb|hb|hb<;>omega
   ·refine lookupG_some (kt:=9) (et:=44) (z:=.slice none 0 0) (by kernel_rfl) (keyStr (by kernel_rfl)) (by kernel_rfl) hM rfl f2 ?_;obtain⟨_,_,rfl,_⟩:=hs.shape;push_cast -dsimp;have e1d:wb.drew.cell? ⟨wx.heap.size,1,none⟩=some (.int .i64 c.pos):=e1;refine wpL_draw (fun w'=>w'.cell? ⟨wx.heap.size,1,none⟩=some (.int .i64 c.pos)) mixed (by kernel_rfl) e1 ?_;push_cast -dsimp[e1d];refine⟨fun w'' h=>by rw[h];exact rfl,?_⟩;refine storeAgg (xt:=28) (n:=2) (by kernel_rfl) Eb.drew rfl (by decide) (by simp;exact⟨rfl,rfl⟩) ?_;intro w7 hw7;have E7:Blk w7 w1.heap.size 28 [.int .i64 9,.int .i64 c.pos]:=hw7.blk;have dE:cellsAt w7 ⟨w1.heap.size,0,none⟩ 0 2=some [.int .i64 9,.int .i64 c.pos]:=E7.cellsAt;have k7:Kept (fun i=>i=w1.heap.size) wb w7:=(Kept.refl (fun i=>i=w1.heap.size) wb).drew.trans hw7.kept (fun i _ h=>h);have cw7:=hbwb.trans (k7.below (B:=w.heap.size) hbwb.size (fun i h=>by omega));refine⟨(Cb.kept k7 (by omega)).cell rfl,?_⟩;push_cast -dsimp[dE];refine⟨?_,cw7⟩;unfold RNames;rw[hnm,hdrop,names_step,f1];rfl
  ·have gx:=fault_agg (hg.below hbx);have gxd:cellsAt wx.drew ⟨0,0,none⟩ 0 2=some [.int .i64 0,.int .i64 (-1)]:=gx;refine wpL_seqV ?_;push_cast -dsimp;refine wpL_draw (fun w''=>cellsAt w'' ⟨0,0,none⟩ 0 2=some [.int .i64 0,.int .i64 (-1)]) mixed (by kernel_rfl) gxd ?_;push_cast -dsimp[gxd];refine⟨fun w'' h=>by rw[h];exact rfl,?_⟩;refine storeAgg (xt:=28) (n:=2) (by kernel_rfl) Ex.drew rfl (by decide) (by simp;exact⟨rfl,rfl⟩) ?_;intro w7 hw7;have E7:Blk w7 w1.heap.size 28 [.int .i64 0,.int .i64 (-1)]:=hw7.blk;have dE:cellsAt w7 ⟨w1.heap.size,0,none⟩ 0 2=some [.int .i64 0,.int .i64 (-1)]:=E7.cellsAt;have k7:Kept (fun i=>i=w1.heap.size) wx w7:=(Kept.refl (fun i=>i=w1.heap.size) wx).drew.trans hw7.kept (fun i _ h=>h);have cw7:=hbx.trans (k7.below (B:=w.heap.size) hbx.size (fun i h=>by omega));refine⟨fault_agg (hg.below cw7),?_⟩;push_cast -dsimp[dE];refine wpL_of ?_;push_cast -dsimp[dE];refine⟨?_,cw7⟩;rw[List.drop_of_length_le (by omega),namesS]at hnm;unfold RNames;rw[hnm];obtain⟨kvs,hM,hA⟩:=hNV;exact⟨_,by omega,rfl,⟨kvs,hM.kept k7 (by omega),hA.imp fun a b h=>⟨h.1,(h.2.1.kept k7 (fun i h=>by rw[hXn];exact .inr (.inl h))).weaken (fun b hb=>by rw[hXn];exact .inl hb),h.2.2⟩⟩,hRN⟩
def RErr (o:Option (Int×Nat))(r:Value):Prop:=match o with
 | none=>r=.agg #[.int .i64 0,.int .i64 (-1)]
 | some (c,e)=>r=.agg #[.int .i64 c,.int .i64 (e:Int)]
def LooC (x:PatP):Prop:=PatOk x→wd x≤100000000→∀(nm:NamesP),RightN nm→∀(X:Nat→Prop) (v:Value) (b:Nat) (w:World),Gr w→PatV X w v x→NamV X w b nm →
 Fun Tryz.prog 38 [v,.map (some b)] w fun r w'=>RErr (PatE nm x) r∧Below w.heap.size w w'
theorem loo_one (k:KindP):LooC (.one k):=by
 intro hok hpn nm hr X v mb w hg hV hm;simp only[PatV]at hV;obtain⟨b,u,rfl,hb,hB,h1⟩:=hV;obtain⟨b1,rfl,hb1⟩:=h1.ptr;have hlt:=hB.lt;simp only[PatOk]at hok;refine fun_of_wLC Tryz.func38 rfl (by kernel_rfl) [.cell 4 28] rfl ?_;push_cast -dsimp(maxSteps:=4000000) [Tryz.ntmps38];refine wpL_seqV ?_;push_cast -dsimp;refine allocK (z:=[.int .i64 0,.int .i64 0]) (by kernel_rfl) ?_;intro w1 hw1;have E1:Blk w1 w.heap.size 28 [.int .i64 0,.int .i64 0]:=hw1.blk;have z1:=hw1.size;have c1:=hw1.below;have hB1:=hB.below c1 hB.lt;have d0:w1.cell? ⟨b,0,none⟩=some (.int .i64 1):=hB1.cell rfl;have d1:w1.cell? ⟨b,1,none⟩=some (.pointer (some ⟨b1,0,none⟩)):=hB1.cell rfl;push_cast -dsimp;refine wpL_seqV ?_;push_cast -dsimp[d0,d1];refine callK_of (rkind_c k hok nm hr X _ mb w1 (hg.below c1) (h1.below c1) (hm.below c1)) ?_;rintro r w2 ⟨hR,c2⟩;unfold RKind at hR;cases hk:kindS nm k with
 | ok s =>
  rw[hk]at hR;obtain⟨v1,rfl,hs1,ha1⟩:=hR;push_cast -dsimp;refine allocK (z:=[.int .i64 0,.int .i64 0]) (by kernel_rfl) ?_;intro w3 hw3;have z3:=hw3.size;have z2:=c2.size;push_cast -dsimp;refine storeAgg (xt:=28) (n:=2) (by kernel_rfl) hw3.blk rfl (by decide) (by simp;exact⟨rfl,rfl⟩) ?_;intro w4 hw4;have F4:Blk w4 w2.heap.size 28 [.int .i64 0,.int .i64 (-1)]:=hw4.blk;have z4:=hw4.size;have c4:Below w2.heap.size w2 w4:=hw3.below.trans (hw4.kept.below (B:=w2.heap.size) (by omega) (fun i h=>by omega));have E4:=(E1.below c2 (by omega)).below c4 (by omega);have cw4:=(c1.trans (c2.mono (by omega))).trans (c4.mono (by omega));have f4:cellsAt w4 ⟨w2.heap.size,0,none⟩ 0 2=some [.int .i64 0,.int .i64 (-1)]:=F4.cellsAt;push_cast -dsimp[f4];refine storeAgg (xt:=28) (n:=2) (by kernel_rfl) E4 rfl (by decide) (by simp;exact⟨rfl,rfl⟩) ?_;intro w5 hw5;have E5:Blk w5 w.heap.size 28 [.int .i64 0,.int .i64 (-1)]:=hw5.blk;have dE:cellsAt w5 ⟨w.heap.size,0,none⟩ 0 2=some [.int .i64 0,.int .i64 (-1)]:=E5.cellsAt;have cw5:=cw4.trans (hw5.kept.below (B:=w.heap.size) cw4.size (fun i h=>by omega));push_cast -dsimp[dE];refine⟨?_,cw5⟩;unfold PatE;rw[patS,hk];rfl
 | error e =>
  rw[hk]at hR;have hR:r=_:=hR;subst hR;push_cast -dsimp;refine allocK (z:=[.int .i64 0,.int .i64 0]) (by kernel_rfl) ?_;intro w3 hw3;have z3:=hw3.size;have z2:=c2.size;push_cast -dsimp;refine storeAgg (xt:=28) (n:=2) (by kernel_rfl) hw3.blk rfl (by decide) (by simp;exact⟨rfl,rfl⟩) ?_;intro w4 hw4;have F4:Blk w4 w2.heap.size 28 [.int .i64 7,.int .i64 e]:=hw4.blk;have z4:=hw4.size;have c4:Below w2.heap.size w2 w4:=hw3.below.trans (hw4.kept.below (B:=w2.heap.size) (by omega) (fun i h=>by omega));have E4:=(E1.below c2 (by omega)).below c4 (by omega);have cw4:=(c1.trans (c2.mono (by omega))).trans (c4.mono (by omega));have f4:cellsAt w4 ⟨w2.heap.size,0,none⟩ 0 2=some [.int .i64 7,.int .i64 e]:=F4.cellsAt;push_cast -dsimp[f4];refine storeAgg (xt:=28) (n:=2) (by kernel_rfl) E4 rfl (by decide) (by simp;exact⟨rfl,rfl⟩) ?_;intro w5 hw5;have E5:Blk w5 w.heap.size 28 [.int .i64 7,.int .i64 e]:=hw5.blk;have dE:cellsAt w5 ⟨w.heap.size,0,none⟩ 0 2=some [.int .i64 7,.int .i64 e]:=E5.cellsAt;have cw5:=cw4.trans (hw5.kept.below (B:=w.heap.size) cw4.size (fun i h=>by omega));push_cast -dsimp[dE];refine⟨?_,cw5⟩;unfold PatE;rw[patS,hk];rfl
theorem loo_parts (code lo hi:Int)(hc:code≠1)(l:List PatP)(hl:∀x∈l,LooC x)(hok:∀x∈l,PatOk x∧wd x≤100000000)(hlen:l.length≤100000000)(nm:NamesP)(hr:RightN nm)(X:Nat→Prop)(b mb:Nat)(pv sv:Value)(vs:List Nat)(w:World)(hg:Gr w)
  (hB:Blk w b 129 [.int .i64 code,pv,sv,.int .i64 lo,.int .i64 hi]) (hs:Sl X 1 (En encP) w sv vs) (hV:PatsV X w vs l) (hm:NamV X w mb nm) :
  Fun Tryz.prog 38 [.pointer (some ⟨b,0,none⟩),.map (some mb)] w fun r w'=>RErr ((patsS nm l).map fun e=>((7:Int),e)) r∧Below w.heap.size w w':=by
 have hvl:=hV.len;obtain⟨sa,sc,rfl,hsc⟩:=hs.shape;have hlt:=hB.lt;refine fun_of_wLC Tryz.func38 rfl (by kernel_rfl) [.cell 4 28] rfl ?_;push_cast -dsimp(maxSteps:=4000000) [Tryz.ntmps38];refine wpL_seqV ?_;push_cast -dsimp;refine allocK (z:=[.int .i64 0,.int .i64 0]) (by kernel_rfl) ?_;intro w1 hw1;have E1:Blk w1 w.heap.size 28 [.int .i64 0,.int .i64 0]:=hw1.blk;have z1:=hw1.size;have c1:=hw1.below;have hB1:=hB.below c1 hB.lt;have d0:w1.cell? ⟨b,0,none⟩=some (.int .i64 code):=hB1.cell rfl;have d2:w1.cell? ⟨b,2,none⟩=some (.slice sa vs.length sc):=hB1.cell rfl;push_cast -dsimp;refine wpL_seqV ?_;push_cast -dsimp[d0,d2];refine⟨fun h=>absurd h hc,fun _=>?_⟩;refine wpL_seqV ?_;push_cast -dsimp[d2];refine wpL_loop [8,9,30,31,32,33,34,35,36,37,38,39,40,41] (fun z wx=>∃(i:Nat),z 30=.int .i64 i∧i≤l.length∧patsS nm (l.take i)=none∧Below w.heap.size w wx∧w1.heap.size≤wx.heap.size∧Blk wx w.heap.size 28 [.int .i64 0,.int .i64 0]) (fun z _=>l.length-(intOf (z 30)).toNat) ?_ ?_
 ·exact⟨0,rfl,Nat.zero_le _,by simp[patsS],c1,Nat.le_refl _,E1⟩
 ·intro z wx hI;obtain⟨i,h30,hi,hno,hbx,zx,Ex⟩:=hI;push_cast -dsimp[h30];refine⟨fun hlt=>?_,fun hge=>?_⟩
  ·obtain⟨x,hx,hxm,_,ht⟩:=lt_get (l:=l) (i:=i) (by omega);obtain⟨u,hu,hVx⟩:=PatsV.nth hV hx;obtain⟨b1,o,rfl,hnb,hcell⟩:=(hs.below hbx).get hu;have c0:wx.cell? ⟨b1,o+i,none⟩=some (.pointer (some ⟨u,0,none⟩)):=by simpa[encP,ptrP] using hcell 0 _ rfl
   push_cast -dsimp[c0,Nat.mul_one];refine⟨⟨by omega,by omega⟩,?_⟩;refine callK_of (hl x hxm (hok x hxm).1 (hok x hxm).2 nm hr X _ mb wx (hg.below hbx) (PatV.below hVx hbx) (hm.below hbx)) ?_;rintro r wy ⟨hE,hby⟩;have hbwy:=hbx.trans (hby.mono hbx.size);have zy:=hby.size;unfold PatE at hE;cases hp:patS nm x with
   | none =>
    rw[hp]at hE;have hE:r=_:=hE;subst hE;push_cast -dsimp;refine allocK (z:=[.int .i64 0,.int .i64 0]) (by kernel_rfl) ?_;intro w3 hw3;have z3:=hw3.size;push_cast -dsimp;refine storeAgg (xt:=28) (n:=2) (by kernel_rfl) hw3.blk rfl (by decide) (by simp;exact⟨rfl,rfl⟩) ?_;intro w4 hw4;have F4:Blk w4 wy.heap.size 28 [.int .i64 0,.int .i64 (-1)]:=hw4.blk;have z4:=hw4.size;have c4:Below wy.heap.size wy w4:=hw3.below.trans (hw4.kept.below (B:=wy.heap.size) (by omega) (fun i h=>by omega));have E4:=(Ex.below hby Ex.lt).below c4 (by omega);have cw4:=hbwy.trans (c4.mono hbwy.size);have f4:cellsAt w4 ⟨wy.heap.size,0,none⟩ 0 2=some [.int .i64 0,.int .i64 (-1)]:=F4.cellsAt;have g4:=fault_agg (hg.below cw4);push_cast -dsimp[f4,g4];refine⟨⟨by omega,by omega⟩,⟨i+1,rfl,by omega,?_,cw4,by omega,E4⟩,by rw[h30];simp only[intOf];omega⟩;rw[ht,patsS_app,hno];simp only[patsS,hp]
   | some e =>
    rw[hp]at hE;have hE:r=_:=hE;subst hE;push_cast -dsimp;refine allocK (z:=[.int .i64 0,.int .i64 0]) (by kernel_rfl) ?_;intro w3 hw3;have z3:=hw3.size;push_cast -dsimp;refine storeAgg (xt:=28) (n:=2) (by kernel_rfl) hw3.blk rfl (by decide) (by simp;exact⟨rfl,rfl⟩) ?_;intro w4 hw4;have F4:Blk w4 wy.heap.size 28 [.int .i64 7,.int .i64 e]:=hw4.blk;have z4:=hw4.size;have c4:Below wy.heap.size wy w4:=hw3.below.trans (hw4.kept.below (B:=wy.heap.size) (by omega) (fun i h=>by omega));have E4:=(Ex.below hby Ex.lt).below c4 (by omega);have cw4:=hbwy.trans (c4.mono hbwy.size);have f4:cellsAt w4 ⟨wy.heap.size,0,none⟩ 0 2=some [.int .i64 7,.int .i64 e]:=F4.cellsAt;have g4:=fault_agg (hg.below cw4);push_cast -dsimp[f4,g4];refine storeAgg (xt:=28) (n:=2) (by kernel_rfl) E4 rfl (by decide) (by simp;exact⟨rfl,rfl⟩) ?_;intro w5 hw5;have E5:Blk w5 w.heap.size 28 [.int .i64 7,.int .i64 e]:=hw5.blk;have dE:cellsAt w5 ⟨w.heap.size,0,none⟩ 0 2=some [.int .i64 7,.int .i64 e]:=E5.cellsAt;have cw5:=cw4.trans (hw5.kept.below (B:=w.heap.size) cw4.size (fun i h=>by omega));push_cast -dsimp[dE];refine⟨?_,cw5⟩;have hall:patsS nm l=some e:=by
     have hsp:l=l.take (i+1)++l.drop (i+1):=(List.take_append_drop _ _).symm;rw[hsp,patsS_app,ht,patsS_app,hno];simp only[patsS,hp]
    rw[hall];rfl
  ·have gx:=fault_agg (hg.below hbx);refine wpL_seqV ?_;push_cast -dsimp[gx];refine storeAgg (xt:=28) (n:=2) (by kernel_rfl) Ex rfl (by decide) (by simp;exact⟨rfl,rfl⟩) ?_;intro w7 hw7;have E7:Blk w7 w.heap.size 28 [.int .i64 0,.int .i64 (-1)]:=hw7.blk;have dE:cellsAt w7 ⟨w.heap.size,0,none⟩ 0 2=some [.int .i64 0,.int .i64 (-1)]:=E7.cellsAt;have cw7:=hbx.trans (hw7.kept.below (B:=w.heap.size) hbx.size (fun i h=>by omega));push_cast -dsimp[dE];refine wpL_of ?_;push_cast -dsimp[dE];refine⟨?_,cw7⟩;rw[List.take_of_length_le (by omega)]at hno;rw[hno];rfl
theorem loo_any:LooC .any:=by
 intro hok hpn nm hr X v mb w hg hV hm;simp only[PatV]at hV;obtain⟨b,rfl,hb,hB⟩:=hV;exact(loo_parts 2 0 0 (by decide) [] (fun x h=>by cases h) (fun x h=>by cases h) (by simp) nm hr X b mb _ _ [] w hg hB (Sl.nil _ _ _ _ _ _) (by simp only[PatsV]) hm).mono fun r w' ⟨h1,h2⟩=>⟨by simpa[PatE,patS,patsS] using h1,h2⟩
theorem loo_edge:LooC .edge:=by
 intro hok hpn nm hr X v mb w hg hV hm;simp only[PatV]at hV;obtain⟨b,rfl,hb,hB⟩:=hV;exact(loo_parts 3 0 0 (by decide) [] (fun x h=>by cases h) (fun x h=>by cases h) (by simp) nm hr X b mb _ _ [] w hg hB (Sl.nil _ _ _ _ _ _) (by simp only[PatsV]) hm).mono fun r w' ⟨h1,h2⟩=>⟨by simpa[PatE,patS,patsS] using h1,h2⟩
theorem loo_cat (l:List PatP)(hl:∀x∈l,LooC x):LooC (.cat l):=by
 intro hok hpn nm hr X v mb w hg hV hm;simp only[PatV]at hV;obtain⟨b,sv,vs,rfl,hb,hB,hs,hV⟩:=hV;have hpc:=wd_in_cat (l:=l);simp only[PatOk]at hok;exact(loo_parts 4 0 0 (by decide) l hl (fun x h=>⟨patsOk_mem hok h,by have:=hpc.2.2 x h;omega⟩) (by have:=hpc.2.1;omega) nm hr X b mb _ sv vs w hg hB hs hV hm).mono fun r w' ⟨h1,h2⟩=>⟨by simpa[PatE,patS] using h1,h2⟩
theorem loo_alt (l:List PatP)(hl:∀x∈l,LooC x):LooC (.alt l):=by
 intro hok hpn nm hr X v mb w hg hV hm;simp only[PatV]at hV;obtain⟨b,sv,vs,rfl,hb,hB,hs,hV⟩:=hV;have hpc:=wd_in_alt (l:=l);simp only[PatOk]at hok;exact(loo_parts 5 0 0 (by decide) l hl (fun x h=>⟨patsOk_mem hok h,by have:=hpc.2.2 x h;omega⟩) (by have:=hpc.2.1;omega) nm hr X b mb _ sv vs w hg hB hs hV hm).mono fun r w' ⟨h1,h2⟩=>⟨by simpa[PatE,patS] using h1,h2⟩
theorem loo_many (x:PatP)(lo hi:Int)(hx:LooC x):LooC (.many x lo hi):=by
 intro hok hpn nm hr X v mb w hg hV hm;simp only[PatV]at hV;obtain⟨b,sv,u,rfl,hb,hB,hs,hV⟩:=hV;have hpm:=wd_in_many (x:=x) (lo:=lo) (hi:=hi);simp only[PatOk]at hok;refine(loo_parts 6 lo hi (by decide) [x] (fun y h=>by rw[List.mem_singleton]at h;rw[h];exact hx) (fun y h=>by rw[List.mem_singleton]at h;rw[h];exact⟨hok.1,by omega⟩) (by simp) nm hr X b mb _ sv [u] w hg hB hs (by simp only[PatsV];exact⟨hV,trivial⟩) hm).mono fun r w' ⟨h1,h2⟩=>⟨?_,h2⟩;have e:patsS nm [x]=patS nm x:=by
  simp only[patsS];cases patS nm x<;>rfl
 rw[e]at h1;simpa[PatE,patS] using h1
mutual
theorem loo_c:∀x,LooC x
 | .one k=>loo_one k
 | .any=>loo_any
 | .edge=>loo_edge
 | .cat l=>loo_cat l (loos_c l)
 | .alt l=>loo_alt l (loos_c l)
 | .many x lo hi=>loo_many x lo hi (loo_c x)
theorem loos_c:∀(l:List PatP) (x:PatP),x∈l→LooC x
 | [],x,h=>by cases h
 | y::l,x,h=>by
  have hy:=loo_c y;rcases List.mem_cons.1 h with h|h
  ·rw[h];exact hy
  ·exact loos_c l x h
end
def chkS (f:FileP):Option (Int×Nat):=match namesS [] f.classes with
 | .error e=>some (errN e)
 | .ok nm=>(rulesS nm f.rules).map fun e=>((7:Int),e)
theorem rulesS_app {nm:NamesP}:∀(a b:List RuleP),rulesS nm (a++b)=match rulesS nm a with
  | some e=>some e
  | none=>rulesS nm b
 | [],b=>by simp only[List.nil_append,rulesS]
 | x::a,b=>by
  simp only[List.cons_append,rulesS];cases ruleS nm x with
  | some e=>rfl
  | none=>exact rulesS_app a b
def PnOk (f:FileP):Prop:=∀r∈f.rules,wd r.before≤100000∧wd r.after≤100000
theorem PatV.weak {X X':Nat→Prop}{w:World}{x:PatP}{v:Value}(h:PatV X w v x)(hX:∀b,X' b→X b):PatV X' w v x:=h.mono (Kept.refl (fun _=>False) w) (fun _ h=>h.elim) hX
theorem check_c (f:FileP)(hok:FileOk f)(hpn:PnOk f)(hlc:f.classes.length≤1000000)(hlr:f.rules.length≤1000000)(X:Nat→Prop)(v:Value)(w:World)(hv:FileV X w v f) :
  Fun Tryz.prog 10 [v] w fun r w'=>ErrAt w.heap.size (chkS f) r w'∧Below w.heap.size w w':=by
 have hv0:=hv;obtain⟨cv,rv,cs,rs,rfl,hcs,hrs,hC,hR⟩:=hv;have hrl:=All2.len hR;obtain⟨ca,cc,rfl,hcc⟩:=hcs.shape;obtain⟨ra,rc,rfl,hrc⟩:=hrs.shape;refine fun_of_vc Tryz.func10 rfl (by kernel_rfl) [2] rfl ?_;push_cast -dsimp(maxSteps:=4000000) [Tryz.ntmps10];refine boxK_of ?_;intro w1 hw1;have hw1:New w w1 25 [.slice ca cs.length cc,.slice ra rs.length rc,.bool f.els]:=hw1;have z1:=hw1.size;have d0:cellsAt w1 ⟨w.heap.size,0,none⟩ 0 3=some [.slice ca cs.length cc,.slice ra rs.length rc,.bool f.els]:=hw1.blk.cellsAt;have hv1:FileV X w1 (.agg #[.slice ca cs.length cc,.slice ra rs.length rc,.bool f.els]) f:=hv0.below hw1.below;push_cast -dsimp[d0];refine callK_of (names_c f hok.1 hlc X _ w1 hv1) ?_;rintro r w2 ⟨hN,hb2⟩;have z2:=hb2.size;have hbw2:=hw1.below.trans (hb2.mono (by omega));have B2:=hw1.blk.below hb2 (by omega);unfold NamesRes at hN;cases hnm:namesS [] f.classes with
 | error e =>
  rw[hnm]at hN;obtain⟨ev,rfl,hE⟩:=hN;obtain⟨eb,heb,rfl,hEB⟩:=hE;push_cast -dsimp;refine⟨?_,hbw2⟩;unfold chkS;rw[hnm];exact⟨eb,by omega,rfl,hEB⟩
 | ok nm =>
  rw[hnm]at hN;obtain⟨mb,hmb,rfl,hNV,hRN⟩:=hN;have d1:w2.cell? ⟨w.heap.size,1,none⟩=some (.slice ra rs.length rc):=B2.cell rfl;push_cast -dsimp[d1];refine wpL_loop [2,6,7,8,20,21,22,23,24,25,26,27,28,29,30,31,32,33,34,35,36,37,38] (fun z wx=>∃(i:Nat),z 20=.int .i64 i∧i≤f.rules.length∧rulesS nm (f.rules.take i)=none∧Below w2.heap.size w2 wx) (fun z _=>f.rules.length-(intOf (z 20)).toNat) ?_ ?_
  ·exact⟨0,rfl,Nat.zero_le _,by simp[rulesS],Below.refl _ _⟩
  ·intro z wx hI;obtain⟨i,h20,hi,hno,hbx2⟩:=hI;have zx:=hbx2.size;have hbx:=hbw2.trans (hbx2.mono (by omega));push_cast -dsimp[h20];refine⟨fun hlt=>?_,fun hge=>?_⟩
   ·obtain⟨c,hc,hcm,_,ht⟩:=lt_get (l:=f.rules) (i:=i) (by omega);obtain⟨x,hx,hxp,hxb,hx1,hx2⟩:=all2_nth hR hc;obtain⟨xp,xb,x1,x2⟩:=x;simp only at hxp hxb hx1 hx2;subst hxp;subst hxb;obtain⟨b1,o,rfl,hnb,hcell⟩:=(hrs.below hbx).get hx;have c4:cellsAt wx ⟨b1,o+i*4,none⟩ 0 4=some [.int .i64 c.pos,.bool c.brk,.pointer (some ⟨x1,0,none⟩),.pointer (some ⟨x2,0,none⟩)]:=cellsAt_of _ 0 (fun j u hu=>by simpa[encRu,ptrP] using hcell j u hu);push_cast -dsimp[c4];refine⟨⟨by omega,by omega⟩,?_⟩;refine allocK (z:=[.int .i64 0,.bool false,.pointer none,.pointer none]) (by kernel_rfl) ?_;intro wa hwa;have za:=hwa.size;push_cast -dsimp;refine storeAgg (n:=4) (by kernel_rfl) hwa.blk rfl (by simp) (by simp[Value.oneCell']) ?_;intro wb hwb;have zb:=hwb.size;have hbb:Below wx.heap.size wx wb:=hwa.below.trans (hwb.kept.below (by omega) (fun i h=>by omega));have hb2b:=hbx2.trans (hbb.mono (by omega));have hbwb:=hbx.trans (hbb.mono (by omega));have Rb:Blk wb wx.heap.size 60 [.int .i64 c.pos,.bool c.brk,.pointer (some ⟨x1,0,none⟩),.pointer (some ⟨x2,0,none⟩)]:=hwb.blk;have e2:wb.cell? ⟨wx.heap.size,2,none⟩=some (.pointer (some ⟨x1,0,none⟩)):=Rb.cell rfl;have hP1:PatV (fun b=>X b∧b<w1.heap.size) wb (ptrP x1) c.before:=PatV.weak (PatV.below hx1 hbwb) (fun b h=>h.1);push_cast -dsimp[e2];refine callK_of (chk_c c.before (hok.2 c hcm).1 (by have:=(hpn c hcm).1;omega) nm hRN _ _ mb wb hP1 (hNV.below hb2b)) ?_;rintro r3 w3 ⟨hE3,hb3⟩;have z3:=hb3.size;have hb23:=hb2b.trans (hb3.mono (by omega))
    have hbw3:=hbwb.trans (hb3.mono (by omega));have Rc:=Rb.below hb3 Rb.lt;have e3:w3.cell? ⟨wx.heap.size,3,none⟩=some (.pointer (some ⟨x2,0,none⟩)):=Rc.cell rfl;have hsp:f.rules=f.rules.take (i+1)++f.rules.drop (i+1):=(List.take_append_drop _ _).symm;unfold PatE at hE3;cases hp1:patS nm c.before with
    | some e =>
     rw[hp1]at hE3;obtain⟨eb,heb,rfl,hEB⟩:=hE3;push_cast -dsimp;refine⟨?_,hbw3⟩;have hall:rulesS nm f.rules=some e:=by
      rw[hsp,rulesS_app,ht,rulesS_app,hno];simp only[rulesS,ruleS,hp1]
     unfold chkS;rw[hnm];dsimp only;rw[hall];exact⟨eb,by omega,rfl,hEB⟩
    | none =>
     rw[hp1]at hE3;have hE3:r3=.nilIface:=hE3;subst hE3;have hP2:PatV (fun b=>X b∧b<w1.heap.size) w3 (ptrP x2) c.after:=PatV.weak (PatV.below hx2 hbw3) (fun b h=>h.1);push_cast -dsimp[e3];refine callK_of (chk_c c.after (hok.2 c hcm).2 (by have:=(hpn c hcm).2;omega) nm hRN _ _ mb w3 hP2 (hNV.below hb23)) ?_;rintro r4 w4 ⟨hE4,hb4⟩;have z4:=hb4.size;have hbw4:=hbw3.trans (hb4.mono (by omega));unfold PatE at hE4;cases hp2:patS nm c.after with
     | some e =>
      rw[hp2]at hE4;obtain⟨eb,heb,rfl,hEB⟩:=hE4;push_cast -dsimp;refine⟨?_,hbw4⟩;have hall:rulesS nm f.rules=some e:=by
       rw[hsp,rulesS_app,ht,rulesS_app,hno];simp only[rulesS,ruleS,hp1,hp2]
      unfold chkS;rw[hnm];dsimp only;rw[hall];exact⟨eb,by omega,rfl,hEB⟩
     | none =>
      rw[hp2]at hE4;have hE4:r4=.nilIface:=hE4;subst hE4;push_cast -dsimp;refine⟨⟨by omega,by omega⟩,⟨i+1,rfl,by omega,?_,hb23.trans (hb4.mono (by omega))⟩,by rw[h20];simp only[intOf];omega⟩;rw[ht,rulesS_app,hno];simp only[rulesS,ruleS,hp1,hp2]
   ·rw[List.take_of_length_le (by omega)]at hno;refine⟨?_,hbx⟩;unfold chkS;rw[hnm];dsimp only;rw[hno];rfl
end Go.Proofs.YtodeeahdhnjpkaaGreatDoor
end
section
namespace Go.Vc
open Go.RowKit
section
variable {P:Program}
theorem vcOps_app {ops l2:List Oper}{K:Fr→World→Prop}{Q:EP}{next:Exit→Act→World→Prop}(hn:∀t w,K t w→wpList P ops.toArray next l2 ⟨t.toArray,[]⟩ w)(hq:∀e a w,lift Q e a w→next e a w) :
  ∀(l:List Oper) (t:Fr) (w:World),vcOps P ops K Q l t w .mk→wpList P ops.toArray next (l++l2) ⟨t.toArray,[]⟩ w
 | [],t,w,h=>hn t w h
 | o::r,t,w,h=>by
  have step:∀(t':Fr),Region.wanted o (yielded ops.toArray t'.toArray)=true→opK P o t' w (fun v w'=>vcOps P ops K Q r (put t' o.dst v) w' .mk) Q .mk→wpList P ops.toArray next (o::(r++l2)) ⟨t'.toArray,[]⟩ w:=fun t' hw h'=>by
   unfold wpList;rw[if_pos hw];refine .inl ?_
   have:=wp_of_opK (next:=wpList P ops.toArray next (r++l2)) (fun v w' hk=>vcOps_app hn hq r _ w' hk) h'
   unfold Oper.wp at this ⊢
   generalize (execOp _ o).run P w=res at this;cases res with
   | ok n w' =>
    cases n<;>simp only[Oper.upon]at this ⊢<;>first|exact this|skip
    exact this.mono fun e w'' he=>by
     cases e with
     | returned v=>exact he
     | panicked c=>exact hq _ _ _ he
     | outgrown=>obtain⟨a₀,w₀,hh⟩:=he;exact⟨a₀,w₀,hq _ _ _ hh⟩
   | halt x w'=>cases x<;>simp only[Oper.upon]at this ⊢<;>first|exact this|exact hq _ _ _ this
  have skip:∀(t':Fr),Region.wanted o (yielded ops.toArray t'.toArray)=false→vcOps P ops K Q r (put t' o.dst undef) w .mk→wpList P ops.toArray next (o::(r++l2)) ⟨t'.toArray,[]⟩ w:=fun t' hw h'=>by
   unfold wpList;rw[if_neg (by rw[hw];simp)];rw[put_eq];exact vcOps_app hn hq r _ w h'
  simp only[vcOps]at h;split at h
  ·rename_i hg;exact step t (by simp[Region.wanted,hg]) h
  ·rename_i j want hg;have hwant:∀t':Fr,Region.wanted o (yielded ops.toArray t'.toArray)=(yielded ops.toArray t'.toArray j == some want):=fun t'=>by simp only[Region.wanted,hg]
   unfold guardK at h;split at h
   ·rename_i hs;exact skip t (by rw[hwant,yielded_eq,hs];rfl) h
   ·rename_i s hs;split at h
    ·rename_i b hb;have hlt:s<t.length:=by
      rcases Nat.lt_or_ge s t.length with h'|h'
      ·exact h'
      ·simp[List.getD_eq_getElem?_getD,List.getElem?_eq_none h',undef]at hb
     have hv:t[s]?=some (.bool b):=by
      rw[List.getD_eq_getElem?_getD]at hb;rw[List.getElem?_eq_getElem hlt]at hb ⊢
      simpa using hb
     have hy:yielded ops.toArray t.toArray j=some b:=by rw[yielded_eq,hs];simp[hv]
     have same:=set_getD_same t s hlt;rw[hb]at same;by_cases hbw:b=want
     ·subst hbw;have h1:=h.1 rfl;rw[same]at h1;exact step t (by rw[hwant,hy];simp) h1
     ·have hbn:b=!want:=by cases b<;>cases want<;>simp_all
      have h2:=h.2 hbn;rw[←hbn,same]at h2;exact skip t (by rw[hwant,hy];simpa using hbw) h2
    ·rename_i hb;refine skip t ?_ h;rw[hwant,yielded_eq,hs];simp only[Option.bind_some];cases hv:t[s]? with
     | none=>rfl
     | some v =>
      have:t.getD s undef=v:=by rw[List.getD_eq_getElem?_getD,hv];rfl
      rw[this]at hb;cases v<;>simp at hb ⊢
theorem wpList_run {o:Oper}{l:List Oper}{ops:Array Oper}{t:Fr}{w:World}{K:Value→World→Prop}{Q:EP}{next:Exit→Act→World→Prop}(hg:o.guard=none)(hq:∀e a w,lift Q e a w→next e a w)
  (hn:∀v w',K v w'→wpList P ops next l ⟨(put t o.dst v).toArray,[]⟩ w') (h:runK P o t w K Q .mk):wpList P ops next (o::l) ⟨t.toArray,[]⟩ w:=by
 unfold wpList;rw[if_pos (by simp[Region.wanted,hg])];refine .inl ?_;have:o.wp P ⟨t.toArray,[]⟩ w (wpList P ops next l) (lift Q):=by
  unfold runK at h;unfold Oper.wp;rw[ev_eq];exact resK_upon hn h
 unfold Oper.wp at this ⊢
 generalize (execOp _ o).run P w=res at this;cases res with
 | ok n w' =>
  cases n<;>simp only[Oper.upon]at this ⊢<;>first|exact this|skip
  exact this.mono fun e w'' he=>by
   cases e with
   | returned v=>exact he
   | panicked c=>exact hq _ _ _ he
   | outgrown=>obtain⟨a₀,w₀,hh⟩:=he;exact⟨a₀,w₀,hq _ _ _ hh⟩
 | halt x w'=>cases x<;>simp only[Oper.upon]at this ⊢<;>first|exact this|exact hq _ _ _ this
theorem wpL_build {id:Nat}{ops l1 l2:List Oper}{o:Oper}{t:Fr}{w:World}{Q:EP}{p}(ho:ops=l1++o::l2)(hg:o.guard=none)
  (h:vcOps P ops (fun t w=>runK P o t w (fun v w'=>vcOps P ops (Q .normal) Q l2 (put t o.dst v) w' .mk) Q .mk) Q l1 t w .mk):wpL P (.region id ops.toArray false) Q t w p:=by
 unfold wpL;refine wp_region_list ?_;have e:ops.toArray.toList=l1++o::l2:=by rw[List.toList_toArray];exact ho
 rw[e];refine vcOps_app (fun t w hk=>?_) (fun _ _ _ h=>h) _ t w h;exact wpList_run hg (fun _ _ _ h=>h) (fun v w' hv=>vcOps_ok (fun t w hk=>⟨rfl,by simpa using hk⟩) (fun _ _ _ h=>h) _ _ w' hv) hk
theorem indexArr {d:Option TypeDesc}{n e:Nat}{x i:Value}{L:VP}{other:Prop}{p}(h:d=some (.array n e))(hh:other):indexK d x i L other p:=by
 subst h;exact hh
end
end Go.Vc
end
