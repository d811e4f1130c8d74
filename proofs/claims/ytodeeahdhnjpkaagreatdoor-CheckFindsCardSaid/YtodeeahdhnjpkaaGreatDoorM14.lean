/- Texts of this claim, merged: Cfm. -/
import Derived.Test.YtodeeahdhnjpkaaGreatDoorM13
set_option maxRecDepth 100000
set_option linter.unusedSimpArgs false
set_option linter.unusedVariables false
set_option maxHeartbeats 8000000
section
namespace Cae
theorem findN_none {n:List UInt8}:∀{nm:NamesP},findN n nm=none→∀x∈nm,x.1≠n
 | [],_,x,hx=>by cases hx
 | y::l,h,x,hx=>by
  rw[findN]at h;split at h
  ·cases h
  ·rename_i hne;rcases List.mem_cons.1 hx with rfl|hx
   ·exact hne
   ·exact findN_none h x hx
theorem findN_mem {x:List UInt8×List Rg}:∀{nm:NamesP},nm.Pairwise (fun a b=>a.1≠b.1)→x∈nm→findN x.1 nm=some x.2
 | [],_,hx=>by cases hx
 | y::l,h,hx=>by
  obtain⟨h1,h2⟩:=List.pairwise_cons.1 h;rw[findN];rcases List.mem_cons.1 hx with rfl|hx
  ·rw[if_pos rfl]
  ·rw[if_neg (h1 x hx),findN_mem h2 hx]
theorem names_apart:∀{l:List ClassP} {acc nm:NamesP},namesS acc l=.ok nm→acc.Pairwise (fun a b=>a.1≠b.1)→nm.Pairwise (fun a b=>a.1≠b.1)
 | [],acc,nm,h,ha=>by rw[namesS]at h;cases h;exact ha
 | c::l,acc,nm,h,ha=>by
  rw[namesS]at h;split at h
  ·cases h
  ·rename_i hn;split at h
   ·cases h
   ·refine names_apart h (List.pairwise_append.2 ⟨ha,List.pairwise_singleton _ _,fun a hx b hb=>?_⟩);rw[List.mem_singleton]at hb;subst hb;have:findN c.name acc=none:=by
     cases hf:findN c.name acc with
     | none=>rfl
     | some s=>rw[hf]at hn;simp at hn
    exact findN_none this a hx
end Cae
namespace Go.Proofs.YtodeeahdhnjpkaaGreatDoor
open Go.Vc Go.Proofs Go.RowKit Cae
attribute [local irreducible] wpL callK valK unitK runK Fun Sl Vc.Own vc vcOps opK pureK
theorem all2_mem {α β:Type}{R:α→β→Prop}{l:List α}{m:List β}(h:All2 R l m){x:α}(hx:x∈l):∃y,y∈m∧R x y:=by
 induction h with
 | nil=>cases hx
 | @cons a b l m h1 _ ih =>
  rcases List.mem_cons.1 hx with rfl|hx
  ·exact⟨b,List.mem_cons_self,h1⟩
  ·obtain⟨y,h2,h3⟩:=ih hx;exact⟨y,List.mem_cons_of_mem _ h2,h3⟩
theorem FileV.topS {X:Nat→Prop}{w:World}{v:Value}{f:FileP}(h:FileV X w v f):FileV (fun b=>X b∨w.heap.size≤b) w v f:=by
 obtain⟨cv,rv,cs,rs,rfl,hcs,hrs,hC,hR⟩:=h;exact⟨_,_,cs,rs,rfl,Sl.top (by decide) hcs,Sl.top (by decide) hrs,hC.imp fun a c h=>h.top,hR.imp fun a c h=>h.top⟩
theorem FileV.monoS {X X' Y:Nat→Prop}{w w':World}{v:Value}{f:FileP}(h:FileV X w v f)(hk:Kept Y w w')(hY:∀i,Y i→X i)(hX:∀i,X' i→X i):FileV X' w' v f:=by
 obtain⟨cv,rv,cs,rs,rfl,S1,S2,A1,A2⟩:=h;exact⟨cv,rv,cs,rs,rfl,(S1.kept hk hY).weaken hX,(S2.kept hk hY).weaken hX,A1.imp fun a c h=>ClsR.mono hk hY hX h,A2.imp fun a c h=>RulR.mono hk hY hX h⟩
theorem NamV.keptS {X Y X':Nat→Prop}{w w':World}{b:Nat}{nm:NamesP}(h:NamV X w b nm)(hk:Kept Y w w')(hY:∀i,Y i→X i)(hb:¬Y b)(hX:∀i,X' i→X i):NamV X' w' b nm:=by
 obtain⟨kvs,h2,h3⟩:=h;exact⟨kvs,h2.kept hk hb,h3.imp fun a b h=>⟨h.1,(h.2.1.kept hk hY).weaken hX,h.2.2⟩⟩
theorem errs_chk {B:Nat}{o:Option (Int×Nat)}{r r':Value}{w:World}(h:ErrAt B o r w)(h':RErr o r'):∃n p,r'=.agg #[.int .i64 n,.int .i64 p]∧Errs w r n p:=by
 cases o with
 | none =>
  have h:r=_:=h;have h':r'=_:=h';exact⟨0,-1,h',.inl ⟨h,rfl,rfl⟩⟩
 | some q =>
  obtain⟨c,e⟩:=q;obtain⟨b,_,rfl,hB⟩:=h;have h':r'=_:=h';exact⟨c,e,h',.inr (.at_ b _ _ (hB.cell rfl) (hB.cell rfl))⟩
theorem ruleRead2 {w w':World}{s:List UInt8}{r:Value}(h:ParsR w s r w'):∃v ev,r=.tuple #[v,ev]∧ReadV w w' s v∧Errs w' ev (faultOf s).1 (faultOf s).2 ∧
  ((ev=.nilIface∧faultOf s=(0,-1)∧parseR s=.ok (fileOf s))∨∃(b:Nat) (e p:Nat),ev=.iface 96 (.pointer (some ⟨b,0,none⟩))∧faultOf s=((e:Int),(p:Int))):=by
 rcases h with ⟨f,v,hp,rfl,hv⟩|⟨e,p,b,hp,rfl,_,hB⟩
 ·have hf:fileOf s=f:=by unfold fileOf;rw[hp]
  have hq:faultOf s=(0,-1):=by unfold faultOf;rw[hp]
  refine⟨v,_,rfl,readV_of (by rw[hf];exact hv),?_,.inl ⟨rfl,hq,by rw[hf];exact hp⟩⟩;rw[hq];exact .inl ⟨rfl,rfl,rfl⟩
 ·have hf:fileOf s=⟨[],[],false⟩:=by unfold fileOf;rw[hp]
  have hq:faultOf s=((e:Int),(p:Int)):=by unfold faultOf;rw[hp]
  refine⟨_,_,rfl,readV_of (by rw[hf];exact fileV_none _ _),?_,.inr ⟨b,e,p,rfl,hq⟩⟩;rw[hq];exact .inr (.at_ b _ _ (hB.cell rfl) (hB.cell rfl))
theorem pnOk_of {s:List UInt8}(hs:s.length≤1200)(h:parseR s=.ok (fileOf s)):PnOk (fileOf s):=fun r hr=>by
 have h1:=text_len h;have h2:=pn_textS hr;have h3:=wd_pn r.before;have h4:=wd_pn r.after;omega
theorem checkFinds_c (s:List UInt8)(w:World)(hg:Gr w)(hE:ErrVar w)(hn:14≤w.heap.size):Fun Tryz.prog 3 [str s] w fun r w'=>r=.bool true∧Below w.heap.size w w':=by
 refine fun_of_wL Tryz.func3 rfl (by kernel_rfl) [2] rfl ?_;push_cast -dsimp(maxSteps:=4000000) [Tryz.ntmps3];refine wpL_seqV ?_;push_cast -dsimp;refine wpL_seqV ?_;push_cast -dsimp;refine⟨fun h20=>Below.refl _ _,fun h20=>?_⟩;have hfo:=fileOf_ok s (by omega);refine wpL_seqV ?_;push_cast -dsimp;refine callK_of (refParse_c s (by omega) w hg) ?_;rintro r wa ⟨hR,ba⟩;obtain⟨v,rfl,hv⟩:=refRead hR;obtain⟨cv,rv,⟨a1,n1,c1,rfl⟩,⟨a2,n2,c2,rfl⟩,rfl,hF⟩:=hv;have za:=ba.size;have hF:=hF.topS;push_cast -dsimp;refine allocK (z:=[.slice none 0 0,.slice none 0 0,.bool false]) (by kernel_rfl) ?_;intro wb hwb;have zb:=hwb.size;push_cast -dsimp;refine allocK (z:=[.int .i64 0,.int .i64 0]) (by kernel_rfl) ?_;intro wc hwc;have zc:=hwc.size;push_cast -dsimp;refine storeAgg (xt:=25) (n:=3) (by kernel_rfl) (hwb.blk.below hwc.below (by omega)) rfl (by decide) (by simp;exact⟨rfl,rfl,rfl⟩) ?_;intro wd hwd;have zd:=hwd.size;push_cast -dsimp;refine storeAgg (xt:=28) (n:=2) (by kernel_rfl) (Blk.kept hwc.blk hwd.kept (by omega)) rfl (by decide) (by simp;exact⟨rfl,rfl⟩) ?_;intro we hwe;have ze:=hwe.size;have hgp:∃p3 p4,p3=wa.heap.size∧p4=wb.heap.size:=⟨_,_,rfl,rfl⟩;obtain⟨p3,p4,e3,e4⟩:=hgp;have Fe:Blk we p3 25 [.slice a1 n1 c1,.slice a2 n2 c2,.bool (fileOf s).els]:=by rw[e3];exact Blk.kept hwd.blk hwe.kept (by omega)
 have Ge:Blk we p4 28 [.int .i64 (faultOf s).1,.int .i64 (faultOf s).2]:=by rw[e4];exact hwe.blk
 have bae:Below wa.heap.size wa we:=((hwb.below.trans (hwc.below.mono (by omega))).trans (hwd.kept.below (B:=wa.heap.size) (by omega) (fun i h=>by omega))).trans (hwe.kept.below (B:=wa.heap.size) (by omega) (fun i h=>by omega));have bwe:Below w.heap.size w we:=ba.trans (bae.mono ba.size);have hge:=hg.below bwe;have hFe:=hF.below bae;rw[←e3,←e4];push_cast -dsimp;refine wpL_seqV ?_;push_cast -dsimp;refine callK_of (ruleParse_c s (by omega) we hge.d hge.e (by have:=bwe.size;omega)) ?_;rintro r wf ⟨hR2,bf⟩;obtain⟨v2,ev,rfl,hv2,hev,hcase⟩:=ruleRead2 hR2;obtain⟨cv2,rv2,⟨a3,n3,c3,rfl⟩,⟨a4,n4,c4,rfl⟩,rfl,hF2⟩:=hv2;have zf:=bf.size;push_cast -dsimp;refine allocK (z:=[.slice none 0 0,.slice none 0 0,.bool false]) (by kernel_rfl) ?_;intro wg hwg;have zg:=hwg.size;push_cast -dsimp;refine storeAgg (xt:=25) (n:=3) (by kernel_rfl) hwg.blk rfl (by decide) (by simp;exact⟨rfl,rfl,rfl⟩) ?_;intro wh hwh;have zh:=hwh.size;have hgp:∃p5,p5=wf.heap.size:=⟨_,rfl⟩;obtain⟨p5,e5⟩:=hgp;have bfh:Below wf.heap.size wf wh:=hwg.below.trans (hwh.kept.below (B:=wf.heap.size) (by omega) (fun i h=>by omega));have beh:=bf.trans (bfh.mono bf.size);have Hh:Blk wh p5 25 [.slice a3 n3 c3,.slice a4 n4 c4,.bool (fileOf s).els]:=by rw[e5];exact hwh.blk
 have Fh:=Fe.below beh Fe.lt;have Gh:=Ge.below beh Ge.lt;have hevh:=hev.below bfh;have bwh:=bwe.trans (beh.mono bwe.size);have hFh:=hFe.below beh;have hF2h:=hF2.below bfh;rw[←e5];push_cast -dsimp;refine wpL_seqV ?_;rcases hcase with ⟨rfl,hq,hps⟩|⟨eb,fe,fp,rfl,hq⟩;rotate_left
 ·rw[hq]at Gh hevh;have dG:cellsAt wh ⟨p4,0,none⟩ 0 2=some [.int .i64 fe,.int .i64 fp]:=Gh.cellsAt;have hp1:((fp:Int) = -1)=False:=by simp only[eq_iff_iff,iff_false];omega
  push_cast -dsimp[dG,fault_agg (hg.below bwh),hp1];constructor
  ·intro _;refine callK_of (is_c _ fe fp fe fp wh (keptErr bwh hE) hevh) ?_;rintro r wi ⟨hr,bi⟩;have hr:r=.bool true:=by rw[hr];simp
   subst hr;push_cast -dsimp;exact bwh.trans (bi.mono bwh.size)
  ·intro _;refine callK_of (is_c _ fe fp fe fp wh (keptErr bwh hE) hevh) ?_;rintro r wi ⟨hr,bi⟩;have hr:r=.bool true:=by rw[hr];simp
   subst hr;push_cast -dsimp;exact bwh.trans (bi.mono bwh.size)
 have Gh:Blk wh p4 28 [.int .i64 0,.int .i64 (-1)]:=by rw[hq]at Gh;exact Gh
 have dG:cellsAt wh ⟨p4,0,none⟩ 0 2=some [.int .i64 0,.int .i64 (-1)]:=Gh.cellsAt;push_cast -dsimp[dG,fault_agg (hg.below bwh)];have dF:cellsAt wh ⟨p3,0,none⟩ 0 3=some [.slice a1 n1 c1,.slice a2 n2 c2,.bool (fileOf s).els]:=Fh.cellsAt;refine wpL_seqV ?_;push_cast -dsimp[dF];refine callK_of (rnames_c (fileOf s) hfo.1.1 (by have:=hfo.2.1;omega) _ _ wh (hg.below bwh) hFh) ?_;rintro r wi ⟨hN,bi⟩;have zi:=bi.size;have bwi:=bwh.trans (bi.mono bwh.size);have hpn:=pnOk_of (by omega) hps;unfold RNames at hN;cases hnm:namesS [] (fileOf s).classes with
 | error e =>
  rw[hnm]at hN;have hN:r=_:=hN;subst hN;have hgq:∃n p,n=(errN e).1∧p=(errN e).2:=⟨_,_,rfl,rfl⟩;obtain⟨n,p,en,ep⟩:=hgq;rw[←en,←ep];push_cast -dsimp;refine storeAgg (xt:=28) (n:=2) (by kernel_rfl) (Gh.below bi Gh.lt) rfl (by decide) (by simp;exact⟨rfl,rfl⟩) ?_;intro wj hwj;have zj:=hwj.size;have kj:=hwj.kept;have Gj:Blk wj p4 28 [.int .i64 n,.int .i64 (p:Int)]:=hwj.blk;have Hj:=(Hh.below bi Hh.lt).kept kj (by omega);have Fj:=(Fh.below bi Fh.lt).kept kj (by omega);have bwj:=bwi.trans (kj.below (B:=w.heap.size) bwi.size (fun i h=>by omega));have hFj:=(hFh.below bi).monoS (X':=fun _=>False) kj (fun i h=>by rw[h];exact .inr (by omega)) (fun _ h=>h.elim);have hF2j:=(hF2h.below bi).monoS (X':=fun _=>False) kj (fun i h=>by rw[h];show p4<we.heap.size;omega) (fun _ h=>h.elim)
  have dH:cellsAt wj ⟨p5,0,none⟩ 0 3=some [.slice a3 n3 c3,.slice a4 n4 c4,.bool (fileOf s).els]:=Hj.cellsAt;push_cast -dsimp;refine wpL_seqV ?_;push_cast -dsimp[dH];refine callK_of (names_c (fileOf s) hfo.1.1 (by have:=hfo.2.1;omega) _ _ wj hF2j) ?_;rintro r wk ⟨hN2,bk⟩;have zk:=bk.size;have bwk:=bwj.trans (bk.mono bwj.size);unfold NamesRes at hN2;rw[hnm]at hN2;have Gk:=Gj.below bk Gj.lt;have Hk:=Hj.below bk Hj.lt;have Fk:=Fj.below bk Fj.lt;have hFk:=hFj.below bk;have hF2k:=hF2j.below bk;obtain⟨nv,rfl,hEA⟩:=hN2;have hev9:Errs wk nv n p:=by
   obtain⟨b,_,rfl,hB⟩:=hEA;rw[en,ep];exact .inr (.at_ b _ _ (hB.cell rfl) (hB.cell rfl))
  clear hev hevh;push_cast -dsimp;have q4:∀w'',Below wk.heap.size wk w''→cellsAt w'' ⟨p4,0,none⟩ 0 2=some [.int .i64 n,.int .i64 (p:Int)]:=fun w'' h=>(Gk.below h Gk.lt).cellsAt;have q5:∀w'',Below wk.heap.size wk w''→cellsAt w'' ⟨p5,0,none⟩ 0 3=some [.slice a3 n3 c3,.slice a4 n4 c4,.bool (fileOf s).els]:=fun w'' h=>(Hk.below h Hk.lt).cellsAt;have q3:∀w'',Below wk.heap.size wk w''→cellsAt w'' ⟨p3,0,none⟩ 0 3=some [.slice a1 n1 c1,.slice a2 n2 c2,.bool (fileOf s).els]:=fun w'' h=>(Fk.below h Fk.lt).cellsAt;have bkd:=below_drewR wk;have bE:∀w'',Below wk.heap.size wk w''→ErrVar w'':=fun w'' h=>keptErr (bwk.trans (h.mono bwk.size)) hE;refine wpL_seqV ?_;push_cast -dsimp;refine wpL_drawM (fun w''=>Below wk.heap.size wk w'') mixed (by kernel_rfl) bkd ?_;push_cast -dsimp[q4 _ bkd];refine⟨fun w'' h=>by rw[q4 _ h];exact rfl,?_⟩;refine callK_of (is_c _ n (p:Int) n (p:Int) wk.drew (bE _ bkd) (hev9.below bkd)) ?_;rintro r wl ⟨hr,bl⟩;have hr:r=.bool true:=by rw[hr];simp
  subst hr;have bkl:=bkd.trans bl;refine⟨bkl,?_⟩;push_cast -dsimp;refine mixKM_len (n:=0) (fun w'' h=>lenNil_run (kt:=9) (et:=44) (by kernel_rfl) rfl) ?_;push_cast -dsimp;refine mixKM_len (n:=0) (fun w'' h=>lenNil_run (kt:=9) (et:=44) (by kernel_rfl) rfl) ?_;have hl1:=hfo.2.1;have hl2:=hfo.2.2.1;push_cast -dsimp[q5 _ bkl];refine⟨fun w'' h=>by rw[q5 _ h];exact rfl,?_⟩;refine callK_of (check_c (fileOf s) hfo.1 hpn (by omega) (by omega) _ _ wl (hF2k.below bkl)) ?_;rintro ra wm ⟨hCa,bm⟩;have bkm:=bkl.trans (bm.mono bkl.size);refine⟨bkm,?_⟩;push_cast -dsimp[q3 _ bkm];refine⟨fun w'' h=>by rw[q3 _ h];exact rfl,?_⟩;refine callK_of (rcheck_c (fileOf s) hfo.1 hpn (by omega) (by omega) _ _ wm (hg.below (bwk.trans (bkm.mono bwk.size))) (hFk.below bkm)) ?_;rintro rb wn ⟨hCb,bn⟩;have bkn:=bkm.trans (bn.mono bkm.size);refine⟨bkn,?_⟩;obtain⟨en1,ep1,rfl,hEr⟩:=errs_chk (hCa.below bn) hCb;push_cast -dsimp;refine callK_of (is_c _ en1 ep1 en1 ep1 wn (bE _ bkn) hEr) ?_;rintro r wo ⟨hr,bo⟩;have hr:r=.bool true:=by rw[hr];simp
  subst hr;have bko:=bkn.trans (bo.mono bkn.size);have bwo:=bwk.trans (bko.mono bwk.size);refine⟨bko,?_⟩;push_cast -dsimp;refine wpL_seqV ?_;push_cast -dsimp;refine rangeNil (kt:=9) (et:=44) (by kernel_rfl) ?_;intro wp hN bp zp;push_cast -dsimp;refine wpL_loop [2,9,10,11,12,67,68,69,70,71,72,73,74,75,76,77,78,79,80,81,82,83,84,85] (fun z wx=>wx=wp) (fun _ _=>0) ?_ ?_
  ·exact rfl
  ·rintro z wx rfl;push_cast -dsimp;refine nextNil hN ?_;push_cast -dsimp;refine wpL_seqV ?_;push_cast -dsimp;refine wpL_of ?_;push_cast -dsimp;exact bwo.trans (bp.mono bwo.size)
 | ok nm =>
  rw[hnm]at hN;obtain⟨mb,hmb,rfl,hNV,hRN⟩:=hN;push_cast -dsimp;refine storeAgg (xt:=28) (n:=2) (by kernel_rfl) (Gh.below bi Gh.lt) rfl (by decide) (by simp;exact⟨rfl,rfl⟩) ?_;intro wj hwj;have zj:=hwj.size;have kj:=hwj.kept;have Gj:Blk wj p4 28 [.int .i64 0,.int .i64 (-1)]:=hwj.blk;have Hj:=(Hh.below bi Hh.lt).kept kj (by omega);have Fj:=(Fh.below bi Fh.lt).kept kj (by omega);have bwj:=bwi.trans (kj.below (B:=w.heap.size) bwi.size (fun i h=>by omega));have hFj:=(hFh.below bi).monoS (X':=fun _=>False) kj (fun i h=>by rw[h];exact .inr (by omega)) (fun _ h=>h.elim);have hF2j:=(hF2h.below bi).monoS (X':=fun _=>False) kj (fun i h=>by rw[h];show p4<we.heap.size;omega) (fun _ h=>h.elim)
  have dH:cellsAt wj ⟨p5,0,none⟩ 0 3=some [.slice a3 n3 c3,.slice a4 n4 c4,.bool (fileOf s).els]:=Hj.cellsAt;push_cast -dsimp;refine wpL_seqV ?_;push_cast -dsimp[dH];refine callK_of (names_c (fileOf s) hfo.1.1 (by have:=hfo.2.1;omega) _ _ wj hF2j) ?_;rintro r wk ⟨hN2,bk⟩;have zk:=bk.size;have bwk:=bwj.trans (bk.mono bwj.size);unfold NamesRes at hN2;rw[hnm]at hN2;have Gk:=Gj.below bk Gj.lt;have Hk:=Hj.below bk Hj.lt;have Fk:=Fj.below bk Fj.lt;have hFk:=hFj.below bk;have hF2k:=hF2j.below bk;obtain⟨mb2,hmb2,rfl,hNV2,hRN2⟩:=hN2;have hNVj:=hNV.keptS kj (X':=fun _=>False) (fun i h=>by rw[h];exact⟨.inr (by omega),by omega⟩) (by omega) (fun _ h=>h.elim);have hNVk:=hNVj.below bk;have hev9:Errs wk .nilIface 0 (-1):=.inl ⟨rfl,rfl,rfl⟩;push_cast -dsimp;have q4:∀w'',Below wk.heap.size wk w''→cellsAt w'' ⟨p4,0,none⟩ 0 2=some [.int .i64 0,.int .i64 (-1)]:=fun w'' h=>(Gk.below h Gk.lt).cellsAt;have q5:∀w'',Below wk.heap.size wk w''→cellsAt w'' ⟨p5,0,none⟩ 0 3=some [.slice a3 n3 c3,.slice a4 n4 c4,.bool (fileOf s).els]:=fun w'' h=>(Hk.below h Hk.lt).cellsAt;have q3:∀w'',Below wk.heap.size wk w''→cellsAt w'' ⟨p3,0,none⟩ 0 3=some [.slice a1 n1 c1,.slice a2 n2 c2,.bool (fileOf s).els]:=fun w'' h=>(Fk.below h Fk.lt).cellsAt;have bkd:=below_drewR wk;have bE:∀w'',Below wk.heap.size wk w''→ErrVar w'':=fun w'' h=>keptErr (bwk.trans (h.mono bwk.size)) hE;refine wpL_seqV ?_;push_cast -dsimp;refine wpL_drawM (fun w''=>Below wk.heap.size wk w'') mixed (by kernel_rfl) bkd ?_;push_cast -dsimp[q4 _ bkd]
  refine⟨fun w'' h=>by rw[q4 _ h];exact rfl,?_⟩;refine callK_of (is_c _ 0 (-1) 0 (-1) wk.drew (bE _ bkd) (hev9.below bkd)) ?_;rintro r wl ⟨hr,bl⟩;have hr:r=.bool true:=by rw[hr];simp
  subst hr;have bkl:=bkd.trans bl;refine⟨bkl,?_⟩;push_cast -dsimp;have hNVm:=hNVk;obtain⟨kvs,hmg,hA⟩:=hNVm;obtain⟨kvs2,hmg2,hA2⟩:=hNV2;refine mixKM_len (n:=nm.length) (fun w'' h=>lenMap_run (kt:=9) (et:=44) (by kernel_rfl) rfl (hmg2.below h hmg2.lt) hA2.len) ?_;push_cast -dsimp;refine mixKM_len (n:=nm.length) (fun w'' h=>lenMap_run (kt:=9) (et:=44) (by kernel_rfl) rfl (hmg.below h hmg.lt) hA.len) ?_;have hl1:=hfo.2.1;have hl2:=hfo.2.2.1;push_cast -dsimp[q5 _ bkl];refine⟨fun w'' h=>by rw[q5 _ h];exact rfl,?_⟩;refine callK_of (check_c (fileOf s) hfo.1 hpn (by omega) (by omega) _ _ wl (hF2k.below bkl)) ?_;rintro ra wm ⟨hCa,bm⟩;have bkm:=bkl.trans (bm.mono bkl.size);refine⟨bkm,?_⟩;push_cast -dsimp[q3 _ bkm];refine⟨fun w'' h=>by rw[q3 _ h];exact rfl,?_⟩;refine callK_of (rcheck_c (fileOf s) hfo.1 hpn (by omega) (by omega) _ _ wm (hg.below (bwk.trans (bkm.mono bwk.size))) (hFk.below bkm)) ?_;rintro rb wn ⟨hCb,bn⟩;have bkn:=bkm.trans (bn.mono bkm.size);refine⟨bkn,?_⟩;obtain⟨en1,ep1,rfl,hEr⟩:=errs_chk (hCa.below bn) hCb;push_cast -dsimp;refine callK_of (is_c _ en1 ep1 en1 ep1 wn (bE _ bkn) hEr) ?_;rintro r wo ⟨hr,bo⟩;have hr:r=.bool true:=by rw[hr];simp
  subst hr;have bko:=bkn.trans (bo.mono bkn.size);have bwo:=bwk.trans (bko.mono bwk.size);refine⟨bko,?_⟩;push_cast -dsimp;refine wpL_seqV ?_;push_cast -dsimp;have bko':=bko;refine rangeG (kt:=9) (et:=44) (by kernel_rfl) (hmg.below bko hmg.lt) ?_;intro wp hRG bp zp;have hlto:=(hmg.below bko hmg.lt).lt;push_cast -dsimp;refine wpL_loop [2,9,10,11,12,67,68,69,70,71,72,73,74,75,76,77,78,79,80,81,82,83,84,85] (fun z wx=>(∃m,RgI (fun l:List UInt8=>str l) wx mb wo.heap.size kvs m)∧Below wo.heap.size wo wx) (fun _ wx=>leftW wx mb wo.heap.size) ?_ ?_
  ·exact⟨⟨_,hRG⟩,bp⟩
  ·rintro z wx ⟨⟨m,hR⟩,bx⟩;push_cast -dsimp;refine nextG hR (fun h0=>?_) (fun wy x m' hxm hm hR' hat hk hs=>?_)
   ·push_cast -dsimp;refine wpL_seqV ?_;push_cast -dsimp;refine wpL_of ?_;push_cast -dsimp;exact bwo.trans (bx.mono bwo.size)
   ·have by_:=bx.trans (hk.below (B:=wo.heap.size) bx.size (fun i h=>by omega));have bky:=bko.trans (by_.mono bko.size);obtain⟨y,hym,hxy,hS1,_⟩:=all2_mem hA hxm;have hfy:=findN_mem (names_apart hnm .nil) hym;rw[←hxy]at hfy;rcases NamV.find (n:=x.1) hA2 with ⟨f1,_⟩|⟨s2,u,f1,f2,hS2,_⟩
    ·rw[f1]at hfy;cases hfy
    rw[f1]at hfy;obtain rfl:=Option.some.inj hfy;push_cast -dsimp;refine entryG hat ?_;push_cast -dsimp;refine lookupG_some (kt:=9) (et:=44) (z:=.slice none 0 0) (by kernel_rfl) (keyStr (by kernel_rfl)) (by kernel_rfl) (hmg2.below bky hmg2.lt) rfl f2 ?_;push_cast -dsimp;have hlen2:=right_len (hRN _ hym);refine callK_of (sameSet_c y.2 (by omega) _ _ u x.2 wy (hS2.below bky) (hS1.below bky)) ?_;rintro r wz ⟨rfl,bz⟩;have hRz:=hR'.below bz hR'.lt.1 hR'.lt.2;push_cast -dsimp;refine⟨⟨⟨_,hRz⟩,by_.trans (bz.mono by_.size)⟩,?_⟩;rw[hRz.left,hR.left];exact hm
end Go.Proofs.YtodeeahdhnjpkaaGreatDoor
end
