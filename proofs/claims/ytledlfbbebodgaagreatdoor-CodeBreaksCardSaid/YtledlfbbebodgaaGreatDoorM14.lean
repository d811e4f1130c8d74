/- Lemmas. -/
import Derived.Test.YtledlfbbebodgaaGreatDoorM13
set_option maxRecDepth 100000
set_option linter.unusedSimpArgs false
set_option linter.unusedVariables false
set_option maxHeartbeats 8000000
section
namespace Cae
theorem ProgOf.lens {has:KindP→Int→Prop}{f:FileP}{p:ProgP}(h:ProgOf has f p):∀r∈p.rules,∃q∈f.rules,CodeOf has true q.before r.before∧CodeOf has false q.after r.after:=by
 have key:∀{l:List PairP} {m:List RuleP},All2 (fun(r:PairP) (q:RuleP)=>r.brk=q.brk∧CodeOf has true q.before r.before∧CodeOf has false q.after r.after) l m→∀r∈l,∃q∈m,CodeOf has true q.before r.before∧CodeOf has false q.after r.after:=by
  intro l m h;induction h with
  | nil=>intro r hr;cases hr
  | cons h1 _ ih =>
   intro r hr;rcases List.mem_cons.1 hr with rfl|hr
   ·exact⟨_,List.mem_cons_self ..,h1.2⟩
   ·obtain⟨q,hq,h⟩:=ih r hr;exact⟨q,List.mem_cons_of_mem _ hq,h⟩
 exact key h.2
end Cae
namespace Go.Proofs.YtledlfbbebodgaaGreatDoor
open Go.Vc Go.Proofs Go.RowKit Cae
attribute [local irreducible] wpL callK valK unitK runK Fun Sl Vc.Own vc vcOps opK pureK
theorem ProgOf.len {has:KindP→Int→Prop}{f:FileP}{p:ProgP}(h:ProgOf has f p)(hl:f.rules.length≤20):ProgLen p:=by
 have hlen:=All2.len h.2;refine⟨by omega,fun r hr=>?_⟩;obtain⟨q,hq,h1,h2⟩:=ProgOf.lens h r hr;exact⟨CodeOf.lens h1,CodeOf.lens h2⟩
theorem ErrAt.isErr {B:Nat}{e:Int×Nat}{v:Value}{w:World}(h:ErrAt B (some e) v w):IsErr w v e.1:=by
 obtain⟨c,e⟩:=e;obtain⟨b,_,rfl,hB⟩:=h;exact .at_ b c (hB.cell rfl)
theorem codeBreaks_c (s t:List UInt8)(w:World)(hv:Vl w)(hE:ErrVar w):Fun Tryz.prog 6 [str s,str t] w fun r w'=>r=.bool true∧Below w.heap.size w w':=by
 refine fun_of_vc Tryz.func6 rfl (by kernel_rfl) [4] rfl ?_;push_cast -dsimp(maxSteps:=4000000) [Tryz.ntmps6];refine⟨fun hs5=>⟨fun hlong=>Below.refl _ _,fun hshort=>?_⟩,fun hlong=>Below.refl _ _⟩;refine callK_of (matched_c w) ?_;rintro _ w1 ⟨rfl,hb1⟩;have z1:=hb1.size;have hv1:=hv.below hb1;push_cast -dsimp;refine callK_of (ruleParse_c s (by omega) w1 hv1.d hv1.e hv1.g) ?_;rintro _ w2 ⟨hP,hb2⟩
 have z2:=hb2.size;have hbw2:=hb1.trans (hb2.mono z1);rcases hP with ⟨f,v,hpar,rfl,hV⟩|⟨e,pos,b,hpar,rfl,heb,hEB⟩
 ·have hV0:=hV;obtain⟨cv,rv,cs,rs,rfl,S1,S2,A1,A2⟩:=hV;have hpo:=parse_ok (by omega) hpar;have hpp:=parse_pn hpar (by omega);have hne:=parse_ne (by omega) hpar;have hsh1:=S1.shape;obtain⟨ca,cc,rfl,hcc⟩:=hsh1;have hsh2:=S2.shape;obtain⟨ra,rc,rfl,hrc⟩:=hsh2;have hrl:=All2.len A2;push_cast -dsimp;refine allocK (z:=[.slice none 0 0,.slice none 0 0,.bool false]) (by kernel_rfl) ?_;intro w3 hw3
  have z3:=hw3.size;push_cast -dsimp;refine storeAgg (n:=3) (by kernel_rfl) hw3.blk rfl (by simp) cellsF3 ?_;intro w4 hw4;have z4:=hw4.size;have B4:Blk w4 w2.heap.size 26 [.slice ca cs.length cc,.slice ra rs.length rc,.bool f.els]:=hw4.blk;have hb24:Below w2.heap.size w2 w4:=hw3.below.trans (hw4.kept.below (by omega) (fun i h=>by omega));have hbw4:=hbw2.trans (hb24.mono (by omega))
  have hV4:=hV0.below hb24;have d4:cellsAt w4 ⟨w2.heap.size,0,none⟩ 0 3=some [.slice ca cs.length cc,.slice ra rs.length rc,.bool f.els]:=B4.cellsAt;push_cast -dsimp[d4];refine callK_of (compile_c f hpo.1 hpp hne (by omega) (by omega) _ _ w4 hV4) ?_;rintro _ w5 ⟨hC,hb5⟩;have z5:=hb5.size;unfold CompR at hC;have hbw5:=hbw4.trans (hb5.mono (by omega));cases hchk:chkS f with
  | some e =>
   rw[hchk]at hC;obtain⟨ev,rfl,hE5⟩:=hC;have hI5:=ErrAt.isErr hE5;push_cast -dsimp;refine allocK (z:=[.slice none 0 0,.bool false]) (by kernel_rfl) ?_;intro w6 hw6;have z6:=hw6.size;push_cast -dsimp;refine storeAgg (n:=2) (by kernel_rfl) hw6.blk rfl (by simp) (by simp[Value.oneCell']) ?_;intro w7 hw7;have z7:=hw7.size
   have hb57:Below w5.heap.size w5 w7:=hw6.below.trans (hw7.kept.below (by omega) (fun i h=>by omega));have P7:Blk w7 w5.heap.size 79 [.slice none 0 0,.bool false]:=hw7.blk;have hb47:=hb5.trans (hb57.mono (by omega));have d7:cellsAt w7 ⟨w2.heap.size,0,none⟩ 0 3=some [.slice ca cs.length cc,.slice ra rs.length rc,.bool f.els]:=(B4.below hb47 (by omega)).cellsAt;push_cast -dsimp[d7]
   refine callK_of (check_c f hpo.1 hpp (by omega) (by omega) _ _ w7 (hV4.below hb47)) ?_;rintro _ w8 ⟨hE8,hb8⟩;have z8:=hb8.size;rw[hchk]at hE8;have hI8:=ErrAt.isErr hE8;have hE8':=hE8;obtain⟨c,p⟩:=e;obtain⟨eb8,_,rfl,_⟩:=hE8';have hE5':=hE5;obtain⟨eb5,_,rfl,_⟩:=hE5';push_cast -dsimp;have hbw8:=hbw5.trans ((hb57.mono (by omega)).trans (hb8.mono (by omega)))
   have hI5':IsErr w8 (.iface 92 (.pointer (some ⟨eb5,0,none⟩))) c:=(ErrAt.isErr ((hE5.below hb57).below hb8));refine callK_of (tell_c _ c w8 (hE.on hbw8) hI5') ?_;rintro _ w9 ⟨rfl,hb9⟩;have z9:=hb9.size;have hI8':IsErr w9 (.iface 92 (.pointer (some ⟨eb8,0,none⟩))) c:=(ErrAt.isErr (hE8.below hb9));push_cast -dsimp
   refine callK_of (tell_c _ c w9 (hE.on (hbw8.trans (hb9.mono (by have:=hbw8.size;omega)))) hI8') ?_;rintro _ wa ⟨rfl,hba⟩;have za:=hba.size;have pa:wa.cell? ⟨w5.heap.size,0,none⟩=some (.slice none 0 0):=(((P7.below hb8 (by omega)).below hb9 (by omega)).below hba (by omega)).cell rfl;push_cast -dsimp[pa]
   exact hbw8.trans ((hb9.mono (by have:=hbw8.size;omega)).trans (hba.mono (by have:=hbw8.size;omega)))
  | none =>
   rw[hchk]at hC;rcases hC with ⟨nm,p,pv,hnm,rfl,hPV,hPO⟩|⟨q,hq,hlen,ev,rfl,hE5⟩
   ·have hlen:=All2.len hPO.2;have hPL:=ProgOf.len hPO (by omega);have hPR:=ProgOf.right hPO (by omega);have hPV0:=hPV;obtain⟨pr,rfl,hps⟩:=hPV0;have hsh:=hps.shape;obtain⟨pa,pc,rfl,hpc⟩:=hsh;push_cast -dsimp;refine allocK (z:=[.slice none 0 0,.bool false]) (by kernel_rfl) ?_;intro w6 hw6;have z6:=hw6.size;push_cast -dsimp
    refine storeAgg (n:=2) (by kernel_rfl) hw6.blk rfl (by simp) (by simp[Value.oneCell']) ?_;intro w7 hw7;have z7:=hw7.size;have hb57:Below w5.heap.size w5 w7:=hw6.below.trans (hw7.kept.below (by omega) (fun i h=>by omega));have P7:Blk w7 w5.heap.size 79 [.slice pa p.rules.length pc,.bool p.els]:=hw7.blk;have hb47:=hb5.trans (hb57.mono (by omega));have F7:=B4.below hb47 (by omega)
    have d7:cellsAt w7 ⟨w2.heap.size,0,none⟩ 0 3=some [.slice ca cs.length cc,.slice ra rs.length rc,.bool f.els]:=F7.cellsAt;push_cast -dsimp[d7];refine callK_of (check_c f hpo.1 hpp (by omega) (by omega) _ _ w7 (hV4.below hb47)) ?_;rintro _ w8 ⟨hE8,hb8⟩;have z8:=hb8.size;rw[hchk]at hE8;have hE8:_=Value.nilIface:=hE8;subst hE8;have P8:=P7.below hb8 (by omega)
    have p8:cellsAt w8 ⟨w5.heap.size,0,none⟩ 0 2=some [.slice pa p.rules.length pc,.bool p.els]:=P8.cellsAt;have hbw8:=hbw5.trans ((hb57.mono (by omega)).trans (hb8.mono (by omega)));have hPV7:=hPV.below hb57;push_cast -dsimp[p8];refine callK_of (rightProgram_c p hPL _ _ w8 (hPV7.below hb8)) ?_;rintro _ w9 ⟨rfl,hb9⟩;have z9:=hb9.size;rw[hPR];have P9:=P8.below hb9 (by omega)
    have F9:=(F7.below hb8 (by omega)).below hb9 (by omega);have p9:w9.cell? ⟨w5.heap.size,0,none⟩=some (.slice pa p.rules.length pc):=P9.cell rfl;have f9:w9.cell? ⟨w2.heap.size,1,none⟩=some (.slice ra rs.length rc):=F9.cell rfl;push_cast -dsimp[p9,f9];refine⟨fun hne=>absurd (by omega) hne,fun _=>?_⟩;have zd:w9.drew.heap.size=w9.heap.size:=rfl
    have hbw9:=hbw8.trans (hb9.mono (by have:=hbw8.size;omega));have hl9:=(hv.below hbw9).l;have ga:∀w'':World,Blk w'' w2.heap.size 26 [.slice ca cs.length cc,.slice ra rs.length rc,.bool f.els]→cellsAt w'' ⟨w2.heap.size,0,none⟩ 0 3=some [.slice ca cs.length cc,.slice ra rs.length rc,.bool f.els]:=fun w'' h=>h.cellsAt
    refine wpL_draw (fun w'=>Blk w' w2.heap.size 26 [.slice ca cs.length cc,.slice ra rs.length rc,.bool f.els]) mixed (by kernel_rfl) F9.drew ?_;have e9:=ga _ F9.drew;push_cast -dsimp[e9];refine⟨fun w'' hC=>by rw[ga w'' hC];exact rfl,?_⟩;refine callK_of (decode_c t (by omega) w9.drew (hl9.below (below_drew w9))) ?_;rintro uv wa ⟨hU,hba⟩;have za:w9.heap.size≤wa.heap.size:=hba.size
    have hb9a:Below w9.heap.size w9 wa:=(below_drew w9).trans (hba.mono (Nat.le_refl _));have Fa:=F9.below hb9a (by omega);have Pa:=P9.below hb9a (by omega);refine⟨Fa,?_⟩;have hul:=udec_length t.length t 0 rfl;have hUa:Arg uv:=hU.nilArg;obtain⟨ua,uc,rfl⟩:=hU.slice;have hb4a:=hb47.trans ((hb8.mono (by omega)).trans ((hb9.mono (by omega)).trans (hb9a.mono (by omega))))
    have hVa:FileV (fun _=>False) wa (.agg #[.slice ca cs.length cc,.slice ra rs.length rc,.bool f.els]) f:=(hV4.below hb4a).mono (Kept.refl (fun _=>False) _) (fun _ h=>h.elim) (fun _ h=>h.elim);push_cast -dsimp;refine callK_of (breaks_c f hpo.1 hpp (by omega) (by omega) (udec 0 t) (by omega) (fun _=>False) _ _ wa hVa (hU.sl.weaken (fun _ h=>h.elim))) ?_;rintro _ wb ⟨hA,hbb⟩;have zb:=hbb.size
    unfold BrkR at hA;rw[hchk]at hA;obtain⟨nm',av,hnm',rfl,hAO⟩:=hA;have hnn:nm'=nm:=by
     rw[hnm]at hnm';cases hnm';rfl
    subst hnn;obtain⟨aa,ac,rfl⟩:=hAO.slice;have Pb:=Pa.below hbb (by omega);refine⟨Fa.below hbb (by omega),?_⟩;push_cast -dsimp;have zbd:wb.drew.heap.size=wb.heap.size:=rfl;have gb:∀w'':World,Blk w'' w5.heap.size 79 [.slice pa p.rules.length pc,.bool p.els]→cellsAt w'' ⟨w5.heap.size,0,none⟩ 0 2=some [.slice pa p.rules.length pc,.bool p.els]:=fun w'' h=>h.cellsAt
    refine wpL_draw (fun w'=>Blk w' w5.heap.size 79 [.slice pa p.rules.length pc,.bool p.els]) mixed (by kernel_rfl) Pb.drew ?_;have eb:=gb _ Pb.drew;push_cast -dsimp[eb];refine⟨fun w'' hC=>by rw[gb w'' hC];exact rfl,?_⟩;have hb9b:Below w9.heap.size w9 wb:=hb9a.trans (hbb.mono (by omega));have hbwb:=hbw9.trans (hb9b.mono (by have:=hbw9.size;omega));have hlb:=(hv.below hbwb).l
    refine callK_of (points_c t (by omega) wb.drew (hlb.below (below_drew wb))) ?_;rintro pv wc ⟨hQ,hbc⟩;have zc:wb.heap.size≤wc.heap.size:=hbc.size;have hbbc:Below wb.heap.size wb wc:=(below_drew wb).trans (hbc.mono (Nat.le_refl _));have Pc:=Pb.below hbbc (by omega);refine⟨Pc,?_⟩;have hQa:Arg pv:=hQ.nilArg
    have hPVc:ProgV _ wc (.agg #[.slice pa p.rules.length pc,.bool p.els]) p:=(((hPV7.below hb8).below hb9).below hb9b).below hbbc;have hpl:(List.map (fun u:U=>(u.p:Int)) (udec 0 t)).length<1000000:=by simp;omega
    obtain⟨qa,qc,rfl⟩:=hQ.slice;push_cast -dsimp;refine callK_of (vmBreaks_c p (List.map (fun u:U=>(u.p:Int)) (udec 0 t)) hPL hpl _ _ _ _ wc hPVc hQ.sl hQa) ?_;rintro _ wd ⟨hB,hbd⟩;have zd':=hbd.size;rw[if_pos hPR]at hB;obtain⟨bv,rfl,hBO⟩:=hB;have hsame:breaksP p (List.map (fun u:U=>(u.p:Int)) (udec 0 t))=breaksM (hasN nm') (ptsU (udec 0 t)) f.rules f.els:=breaks_same (pts_ok t) hpo.1.2 hPO
    rw[hsame]at hBO;obtain⟨ba,bc,rfl⟩:=hBO.slice;refine⟨Pc.below hbd (by omega),?_⟩;have hlA:(breaksM (hasN nm') (ptsU (udec 0 t)) f.rules f.els).length≤100000:=by have:=breaks_few (has:=hasN nm') (pts:=ptsU (udec 0 t)) f.rules f.els;rw[ptsU_len]at this;omega
    push_cast -dsimp;refine callK_of (equalN_c _ _ (by omega) _ _ _ _ wd ((hAO.below hbbc).below hbd).sl hBO.sl) ?_;rintro _ we ⟨rfl,hbe⟩;rw[decide_eq_true rfl];push_cast -dsimp;exact hbwb.trans ((hbbc.mono (by have:=hbwb.size;omega)).trans ((hbd.mono (by have:=hbwb.size;omega)).trans (hbe.mono (by have:=hbwb.size;omega))))
   ·have hI5:=ErrAt.isErr hE5;have hE5':=hE5;obtain⟨eb5,_,rfl,_⟩:=hE5';push_cast -dsimp;refine allocK (z:=[.slice none 0 0,.bool false]) (by kernel_rfl) ?_;intro w6 hw6;have z6:=hw6.size;push_cast -dsimp;refine storeAgg (n:=2) (by kernel_rfl) hw6.blk rfl (by simp) (by simp[Value.oneCell']) ?_;intro w7 hw7;have z7:=hw7.size
    have hb57:Below w5.heap.size w5 w7:=hw6.below.trans (hw7.kept.below (by omega) (fun i h=>by omega));have hb47:=hb5.trans (hb57.mono (by omega));have F7:=B4.below hb47 (by omega);have d7:cellsAt w7 ⟨w2.heap.size,0,none⟩ 0 3=some [.slice ca cs.length cc,.slice ra rs.length rc,.bool f.els]:=F7.cellsAt;push_cast -dsimp[d7]
    refine callK_of (check_c f hpo.1 hpp (by omega) (by omega) _ _ w7 (hV4.below hb47)) ?_;rintro _ w8 ⟨hE8,hb8⟩;have z8:=hb8.size;rw[hchk]at hE8;have hE8:_=Value.nilIface:=hE8;subst hE8;have hbw8:=hbw5.trans ((hb57.mono (by omega)).trans (hb8.mono (by omega)));have hI8:IsErr w8 (.iface 92 (.pointer (some ⟨eb5,0,none⟩))) 4:=ErrAt.isErr ((hE5.below hb57).below hb8);push_cast -dsimp
    refine callK_of (tell_c _ 4 w8 (hE.on hbw8) hI8) ?_;rintro _ w9 ⟨rfl,hb9⟩;have z9:=hb9.size;have hbB:=has_brace (by omega) hpar hq hlen;push_cast -dsimp;refine callK_of (hasAny_c s w9 hbB.1 (by omega) hbB.2) ?_;rintro _ wa ⟨rfl,hba⟩;push_cast -dsimp;exact hbw8.trans ((hb9.mono (by have:=hbw8.size;omega)).trans (hba.mono (by have:=hbw8.size;omega)))
 ·push_cast -dsimp;refine allocK (z:=[.slice none 0 0,.slice none 0 0,.bool false]) (by kernel_rfl) ?_;intro w3 hw3;have z3:=hw3.size;push_cast -dsimp;refine storeAgg (n:=3) (by kernel_rfl) hw3.blk rfl (by simp) cellsF3 ?_;intro w4 hw4;have z4:=hw4.size;have hb24:Below w2.heap.size w2 w4:=hw3.below.trans (hw4.kept.below (by omega) (fun i h=>by omega));have hbw4:=hbw2.trans (hb24.mono (by omega))
  push_cast -dsimp;exact hbw4
end Go.Proofs.YtledlfbbebodgaaGreatDoor
end
