/- Texts of this claim, merged: As, Tell, Vl, RowL, RowC, Open, Right, Rgt, OpenC, Svd, Op1, Op2, Thr, Two, Op3, Sv, Sw. -/
import Derived.Test.YtledlfbbebodgaaGreatDoorM10
import Derived.Test.YtledlfbbebodgaaGreatDoorTie
import Derived.ProofKit
import Derived.Handy
import Derived.Lay
import Derived.OpenShut
import Derived.LaidMore
import Derived.Carry
import Derived.SevenTiedAt
import Derived.LaidHandle
import Derived.LaidSub
import Derived.LaidLaws
import Derived.Lib.LaidTab
import Derived.HandedShaped
import Derived.Shelf.Vars
import Derived.Deep.Strs
set_option maxRecDepth 100000
set_option linter.unusedSimpArgs false
set_option linter.unusedVariables false
set_option maxHeartbeats 8000000
section
namespace Go.Proofs.YtledlfbbebodgaaGreatDoor
open Go.Vc Go.Proofs Go.RowKit Cae
attribute [local irreducible] dd ae ak a7 runK bE Sl Vc.Own vc aU cJ a8
open Go.RowKit Go.Extern.Stop Go.Stop Go.Extern
inductive aCg (w:World):Value->Int->Prop
 | bare (n:Int):aCg w (.iface 83 (.int .i64 n)) n
 | at_ (b:Nat) (n:Int):w.cell? ⟨b,0,none⟩=some (.int .i64 n)->aCg w (.iface 92 (.pointer (some ⟨b,0,none⟩))) n
end Go.Proofs.YtledlfbbebodgaaGreatDoor
end
section
namespace Go.Proofs.YtledlfbbebodgaaGreatDoor
open Go.Vc Go.Proofs Go.RowKit Cae
attribute [local irreducible] dd ae ak a7 runK bE Sl Vc.Own vc aU cJ a8
theorem Kj.on {w w':World}(h:Kj w)(hb:Below w.heap.size w w'):Kj w':=(hb.cell (World.block_lt_of_cell? w _ h)).trans h
structure Vl (w:World):Prop where
 d:Db w
 e:mA w
 l:xA w
 g:11<=w.heap.size
theorem Vl.below {w w':World}(h:Vl w)(hb:Below w.heap.size w w'):Vl w':=⟨h.d.below hb h.d.lt,h.e.below hb,h.l.below hb,by have:=hb.size;have:=h.g;omega⟩
theorem ZX {a1 a2:Option Addr}{n1 k1 n2 k2:Nat}{e:Bool}:∀v∈[Value.slice a1 n1 k1,.slice a2 n2 k2,.bool e],v.oneCell'=true:=by
 intro v hv;simp only[List.mem_cons,List.not_mem_nil,or_false]at hv;rcases hv with rfl|rfl|rfl<;>rfl
end Go.Proofs.YtledlfbbebodgaaGreatDoor
end
section
namespace Go.Proofs.YtledlfbbebodgaaGreatDoor
open Go.ChangeShapes Go.WideShapes Go.ChangeAt Go.RowKit Go.Vc Cae
theorem own:ownKnob Tryz.prog.godebug=none:=by kernel_rfl
theorem laidOut:laidOutB Tryz.prog=true:=by kernel_rfl
def aHt:List Int:=[0,1,56,2,57,49,28,3,61,58,42,50,38,29,17,4,62,47,59,36,45,43,51,22,53,39,33,30,24,18,12,5,63,55,48,27,60,41,37,16,46,35,44,21,52,32,23,11,54,26,40,15,34,20,31,10,25,14,19,9,13,8,7,6]
theorem aHu {W:World}{l:List (String×DataW Unit)}(hl:(l.filter λx=>x.1 == "math/bits.deBruijn64tab")=[("math/bits.deBruijn64tab",Rows.laid_math_bits_deBruijn64tab)])(h:laidMetH Tryz.prog l W):Db W:=by
 have h:=h.filter (λx=>x.1 == "math/bits.deBruijn64tab");rw[hl,MakeChecks.laidMetH_plain _ _ _ (by kernel_rfl)]at h;have hg:Tryz.prog.globalNamed "math/bits.deBruijn64tab"=some 8:=by kernel_rfl
 have ht:Lib.TabIs Tryz.prog W "math/bits.deBruijn64tab" .u8 aHt:=Lib.tabIs_of_head (n:=64) (t:=300) (e:=5) hg (by kernel_rfl) (by kernel_rfl) (by kernel_rfl) (by kernel_rfl) (by kernel_rfl) h;exact ht.cell hg 15 (by decide)
theorem Ze {W:World}{l:List (String×DataW Unit)}(h1:(l.filter λx=>x.1 == "strconv.ErrSyntax")=[("strconv.ErrSyntax",Rows.laid_strconv_ErrSyntax)])(h2:(l.filter λx=>x.1 == "strconv.ErrRange")=[("strconv.ErrRange",Rows.laid_strconv_ErrRange)])(h:laidMetH Tryz.prog l W):mA W:=by
 constructor
 ·have h:=h.filter (λx=>x.1 == "strconv.ErrSyntax");rw[h1,MakeChecks.laidMetH_plain _ _ _ (by kernel_rfl)]at h;obtain⟨ps,⟨g,t,cs,fuel,p,q,hg,ht,hv,hd,_,_⟩,_,_⟩:=h;obtain rfl:=Option.some.inj ((show Tryz.prog.globalNamed "strconv.ErrSyntax"=some 5 by kernel_rfl).symm.trans hg)
  obtain rfl:=Option.some.inj ((show (Tryz.prog.globals[5]?).map (·.type)=some 31 by kernel_rfl).symm.trans ht)
  obtain⟨_,u,v,iW,_,_⟩:=iface_of_trod Tryz.underlying31 hd;obtain⟨lc⟩:=cs;have aEA:lc=[.iface u v]:=iW;subst aEA;exact⟨u,v,by simpa using World.var?_cell hg hv 0⟩
 have h:=h.filter (λx=>x.1 == "strconv.ErrRange");rw[h2,MakeChecks.laidMetH_plain _ _ _ (by kernel_rfl)]at h;obtain⟨ps,⟨g,t,cs,fuel,p,q,hg,ht,hv,hd,_,_⟩,_,_⟩:=h;obtain rfl:=Option.some.inj ((show Tryz.prog.globalNamed "strconv.ErrRange"=some 6 by kernel_rfl).symm.trans hg)
 obtain rfl:=Option.some.inj ((show (Tryz.prog.globals[6]?).map (·.type)=some 31 by kernel_rfl).symm.trans ht)
 obtain⟨_,u,v,iW,_,_⟩:=iface_of_trod Tryz.underlying31 hd;obtain⟨lc⟩:=cs;have aEA:lc=[.iface u v]:=iW;subst aEA;exact⟨u,v,by simpa using World.var?_cell hg hv 0⟩
theorem Wg {W:World}{l:List (String×DataW Unit)}(hl:(l.filter λx=>x.1 == "caesura/utf.least")=[("caesura/utf.least",Rows.laid_caesura_utf_least)])(h:laidMetH Tryz.prog l W):xA W:=by
 have h:=h.filter (λx=>x.1 == "caesura/utf.least");rw[hl,MakeChecks.laidMetH_plain _ _ _ (by kernel_rfl)]at h;obtain⟨ps,⟨g,t,cs,fuel,p,q,hg,ht,hv,hd,_,_⟩,_,_⟩:=h;obtain rfl:=Option.some.inj ((show Tryz.prog.globalNamed "caesura/utf.least"=some 0 by kernel_rfl).symm.trans hg)
 obtain rfl:=Option.some.inj ((show (Tryz.prog.globals[0]?).map (·.type)=some 151 by kernel_rfl).symm.trans ht)
 have c5:Tryz.prog.cellsOf 3=1:=by kernel_rfl
 have c29:Tryz.prog.cellsOf 151=5:=by kernel_rfl
 obtain⟨xs,m,_,ex,hlen,hl,yN⟩:=DataW.trod_array Tryz.underlying151 hd;rw[c29]at hlen;have key:cs=#[.int .i64 0,.int .i64 0,.int .i64 128,.int .i64 2048,.int .i64 65536]:=by
  obtain⟨l⟩:=cs;match l,hlen with
  | [a,b,c,d,e],_ =>
   match xs,hl with
   | [x0,x1,x2,x3,x4],_ =>
    have e3:=(DataW.agg.inj (Prod.mk.inj ex).1);simp only[List.map_cons,List.map_nil,List.cons.injEq,and_true]at e3;have k0:=yN 0 (by omega);have k1:=yN 1 (by omega);have k2:=yN 2 (by omega);have k3:=yN 3 (by omega);have k4:=yN 4 (by omega);rw[c5]at k0 k1 k2 k3 k4;obtain⟨z0,a0,b0,_⟩:=DataW.trod_int Tryz.underlying3 k0;obtain⟨z1,a1,b1,_⟩:=DataW.trod_int Tryz.underlying3 k1;obtain⟨z2,a2,b2,_⟩:=DataW.trod_int Tryz.underlying3 k2;obtain⟨z3,a3,b3,_⟩:=DataW.trod_int Tryz.underlying3 k3;obtain⟨z4,a4,b4,_⟩:=DataW.trod_int Tryz.underlying3 k4;simp_all;omega
 subst key;intro k hk;rw[World.var?_cell hg hv k];have:k=0\/k=1\/k=2\/k=3\/k=4:=by omega
 rcases this with e|e|e|e|e<;>subst e<;>rfl
theorem L9 {H:Type}{enc:TypeId×Value->H}{a:Assume}{C:Checked}{os:Os}{f:FuncId}{fn:Func}{s:ChangeSpec}{conds:List PathCond}{apart fresh handsOn again:Bool}{X:World->Array Value->Prop}
  (hX:∀(w w':World) (args:Array Value),w.heap=w'.heap->X w args->X w' args)
  (own:ownKnob C.prog.godebug=none) (started:os.Started) (aFM:C.prog.inits.idxOf? f=none) (hfn:C.prog.funcs[f]?=some fn)
  (witness:∃(w:World) (tape:Tape) (i:Input),w.os=os/\(w.forCall tape i).Shaped C.prog/\i.vars=[]/\Input.okWide C.prog (w.forCall tape i) .any w.heap.size f i /\
   ((s.pre enc C.prog fn conds apart (w.forCall tape i).memory i.args/\X (w.forCall tape i).memory i.args)/\sizedMet enc C.prog fn (OpenSpec.ofChange s) apart (w.forCall tape i).memory i.args)/\a.holds C.prog (lone (Frame.enter C.prog f i.args .normal) [] (w.forCall tape i)))
  (U6:∀(W:World) (base:Nat) (args:Array Value) (ds gs:List (DataW H)) (before:List MemPlace),
   (∀(j:Nat) t v,fn.params[j]?=some t->args[j]?=some v->Value.okWide C.prog W .any base t v) ->
   DataW.Whole enc C.prog fn.params.toList s.vars apart W args.toList ds gs before ->
   (DataW.weightsEach C.prog (fn.params.toList++s.plain.varTypes C.prog) (ds++gs)).all (·<=reachBytes)=true->X W args->W.ShapedOpen C.prog ->
   Calls C.prog f args W λe W'=>∃v,e=.returned v/\s.post enc C.prog fn apart fresh handsOn again W args v W') :
  ReturnsInHanded a C os f .any (λw args=>(s.pre enc C.prog fn conds apart w args/\X w args)/\sizedMet enc C.prog fn (OpenSpec.ofChange s) apart w args) (s.post enc C.prog fn apart fresh handsOn again):=by
 refine returnsInHanded_of_calls own started aFM witness ?_;intro w tape i _ eW _ bJ aE5 aNk;obtain⟨_,_,_,fn',aNd,_,_,_,_,Ad⟩:=bJ;have e:fn'=fn:=Option.some.inj (aNd.symm.trans hfn);subst e;obtain⟨⟨⟨ds,gs,before,hw,hc⟩,hx⟩,hz⟩:=aE5;have tW:=DataW.Whole.of_heap (w':=w.forCall tape i) (by rfl) hw;refine(U6 (w.forCall tape i) w.heap.size i.args ds gs before Ad tW (hz.weights hw) (hX _ _ _ (by rfl) hx) eW).mono λe W' ⟨v,he,hp⟩=>?_;subst he;exact ChangeSpec.post_blind hp
theorem aJ2 {W:World}(h:W.ShapedOpen Tryz.prog):11<=W.heap.size:=by
 obtain⟨o,o0,h1,_⟩:=h.2 11 (of_decide_eq_true (by kernel_rfl)) (of_decide_eq_true (by kernel_rfl))
 have:=(Array.getElem?_eq_some_iff.1 h1).1;omega
theorem aKm {W:World}{l:List (String×DataW Unit)}(h1:(l.filter λx=>x.1 == "math/bits.deBruijn64tab")=[("math/bits.deBruijn64tab",Rows.laid_math_bits_deBruijn64tab)])(h2:(l.filter λx=>x.1 == "strconv.ErrSyntax")=[("strconv.ErrSyntax",Rows.laid_strconv_ErrSyntax)])(h3:(l.filter λx=>x.1 == "strconv.ErrRange")=[("strconv.ErrRange",Rows.laid_strconv_ErrRange)])(h4:(l.filter λx=>x.1 == "caesura/utf.least")=[("caesura/utf.least",Rows.laid_caesura_utf_least)])
  (h:laidMetH Tryz.prog l W) (hs:W.ShapedOpen Tryz.prog):Vl W :=
 ⟨aHu h1 h,Ze h2 h3 h,Wg h4 h,aJ2 hs⟩
noncomputable def aOY (os:Os):World :=
 { World.doorLaid Tryz.prog 85 os with heap:=(World.doorLaid Tryz.prog 85 os).heap.modify 9 λo=>match o with
  | .cells _ t x=>.cells (Go.Pinned.utf8FirstZ.map λ(n:Nat)=>Value.int .u8 (n:Int)).toArray t x
  | o=>o }
end Go.Proofs.YtledlfbbebodgaaGreatDoor
end
section
namespace Go.Vc
open Go.RowKit
theorem xI {α:Type}(Pr:Nat->α->Prop):∀n,(∀i,i<n->∃x,Pr i x)->∃l:List α,l.length=n/\∀i x,l[i]?=some x->Pr i x
 | 0,_=>⟨[],rfl,λi x h=>by simp at h⟩
 | n+1,h=>by
  obtain⟨l,hl,hp⟩:=xI Pr n (λi hi=>h i (by omega));obtain⟨y,hy⟩:=h n (by omega);refine⟨l++[y],by simp[hl],λi x hx=>?_⟩;rcases Nat.lt_trichotomy i n with aw|heq|HF
  ·rw[List.getElem?_append_left (by omega)]at hx;exact hp i x hx
  ·subst heq;rw[List.getElem?_append_right (by omega),hl,Nat.sub_self]at hx;simp at hx;subst hx;exact hy
  rw[List.getElem?_eq_none (by simp[hl];omega)]at hx;cases hx
theorem mapM_cells {w:World}{a:Addr}:∀(n s:Nat) (cs:List Value),((List.range' s n).mapM λi=>w.cell? (a.add i))=some cs->cs.length=n/\∀j u,cs[j]?=some u->w.cell? (a.add (s+j))=some u
 | 0,s,cs,h=>by
  simp at h;subst h;exact⟨rfl,λj u hu=>by simp at hu⟩
 | n+1,s,cs,h=>by
  rw[List.range'_succ,List.mapM_cons]at h;cases hc:w.cell? (a.add s) with
  | none=>simp[hc]at h
  | some c =>
   rw[hc]at h;simp only[Option.pure_def,Option.bind_eq_bind,Option.bind_some]at h;cases hr:(List.range' (s+1) n).mapM λi=>w.cell? (a.add i) with
   | none=>simp[hr]at h
   | some r =>
    rw[hr]at h;simp only[Option.bind_some,Option.some.injEq]at h;subst h;obtain⟨h1,h2⟩:=mapM_cells n (s+1) r hr;refine⟨by simp[h1],λj u hu=>?_⟩;cases j with
    | zero=>simp at hu;subst hu;exact hc
    | succ j =>
     have:=h2 j u (by simpa using hu);rwa [show s+1+j=s+(j+1) by omega]at this
theorem LJ {w:World}{base:Nat}{a:Addr}{n:Nat}{cs:List Value}(h:w.cells? base a n=some cs):cs.length=n/\∀j u,cs[j]?=some u->w.cell? (a.add j)=some u:=by
 unfold World.cells? at h;split at h
 ·rw[List.range_eq_range']at h;obtain⟨h1,h2⟩:=mapM_cells n 0 cs h;exact⟨h1,λj u hu=>by simpa using h2 j u hu⟩
 cases h
end Go.Vc
end
section
namespace Go.Proofs.YtledlfbbebodgaaGreatDoor
open Go.Vc Go.Proofs Go.RowKit Cae
attribute [local irreducible] dd ae ak a7 runK bE Sl Vc.Own vc aU cJ a8
def bV (x:I3):List Value:=[.int .i64 x.op,.int .i64 x.a,.int .i64 x.b]
def elV:List Value->Value
 | [v]=>v
 | cs=>.agg cs.toArray
theorem Ju {α:Type}(R:List Value->α->Prop)(g:FuncId)(cap:List Value)(f:α->Bool)(l:List α)(hl:l.length<1000000000)(X:Nat->Prop)(v:Value)(w:World)(hv:Sl X 1 R w v l)
  (hf:∀x∈l,∀cs,R cs x->cs.length=1->∀w',Below w.heap.size w w'->bE Tryz.prog g (elV cs::cap) w' λr bU=>r=.bool (f x)/\Below w'.heap.size w' bU) :
  bE Tryz.prog 118 [v,.func (.func g) #[] cap.toArray] w λr w'=>(∃n:Int,r=.int .i64 n/\(0<=n↔l.any f=true))/\Below w.heap.size w w':=by
 obtain⟨a,c,rfl,hc⟩:=hv.shape;refine aE Tryz.func118 rfl (by kernel_rfl) [4] rfl ?_;push_cast -dsimp(maxSteps:=4000000) [Tryz.ntmps118];refine aL [4,5,8,9,10,11,12,13,14,15,16,17,18] (λz wx=>∃(i:Nat),z 8=.int .i64 i/\i<=l.length/\(∀x∈l.take i,f x=false)/\Below w.heap.size w wx) (λz _=>l.length-(intOf (z 8)).toNat) ?_ ?_
 ·exact⟨0,rfl,Nat.zero_le _,by simp,Below.refl _ _⟩
 intro z wx hI;obtain⟨i,h8,hi,bJ,hb⟩:=hI;push_cast -dsimp[h8];refine⟨λaw=>?_,λfT=>?_⟩
 ·obtain⟨x,hx,jQ,hd,ht⟩:=au (l:=l) (i:=i) (by omega);obtain⟨b,o,cs,ha,hX,hk,aK,hR⟩:=(hv.below hb).AQ hx;subst ha;obtain⟨u,rfl⟩:∃u,cs=[u]:=(match cs,hk with|[u],_=>⟨u,rfl⟩);have c0:wx.cell? ⟨b,o+i,none⟩=some u:=(by simpa using aK 0 u rfl);push_cast -dsimp[c0]
  refine⟨⟨by omega,by omega⟩,?_⟩;refine aA (hf x jQ _ hR rfl wx hb) ?_;rintro _ w1 ⟨rfl,gX⟩;have nF:=hb.trans (gX.mono hb.size);push_cast -dsimp[Ez];refine⟨λyR=>?_,λeZ=>?_⟩
  ·exact⟨⟨i,rfl,⟨λ_=>List.any_eq_true.2 ⟨x,jQ,yR⟩,λ_=>by omega⟩⟩,nF⟩
  refine⟨⟨by omega,by omega⟩,⟨i+1,rfl,by omega,?_,nF⟩,by rw[h8];simp only[intOf];omega⟩;intro y hy;rw[ht,List.mem_append,List.mem_singleton]at hy;rcases hy with hy|rfl
  ·exact bJ y hy
  exact eZ
 refine⟨⟨-1,rfl,?_⟩,hb⟩;rw[List.take_of_length_le (by omega)]at bJ;constructor
 ·intro h;omega
 intro h;obtain⟨x,hx,hn⟩:=List.any_eq_true.1 h;rw[bJ x hx]at hn;cases hn
theorem Bl {α:Type}(R:List Value->α->Prop)(g:FuncId)(cap:List Value)(f:α->Bool)(l:List α)(hl:l.length<1000000000)(X:Nat->Prop)(v:Value)(w:World)(hv:Sl X 1 R w v l)
  (hf:∀x∈l,∀cs,R cs x->cs.length=1->∀w',Below w.heap.size w w'->bE Tryz.prog g (elV cs::cap) w' λr bU=>r=.bool (f x)/\Below w'.heap.size w' bU) :
  bE Tryz.prog 87 [v,.func (.func g) #[] cap.toArray] w λr w'=>r=.bool (l.any f)/\Below w.heap.size w w':=by
 refine aE Tryz.func87 rfl (by kernel_rfl) [4] rfl ?_;push_cast -dsimp(maxSteps:=4000000) [Tryz.ntmps87];refine aA (Ju R g cap f l hl X v w hv hf) ?_;rintro r w1 ⟨⟨n,rfl,hn⟩,hb⟩;push_cast -dsimp;refine⟨?_,hb⟩;congr 1;cases h:l.any f with
 | true=>rw[h]at hn;exact decide_eq_true (hn.2 rfl)
 | false=>rw[h]at hn;exact decide_eq_false (λh0=>by have:=hn.1 h0;cases this)
theorem MA {α:Type}(R:List Value->α->Prop)(g:FuncId)(cap:List Value)(f:α->Bool)(l:List α)(hl:l.length<1000000000)(X:Nat->Prop)(v:Value)(w:World)(hv:Sl X 3 R w v l)
  (hf:∀x∈l,∀cs,R cs x->cs.length=3->∀w',Below w.heap.size w w'->bE Tryz.prog g (elV cs::cap) w' λr bU=>r=.bool (f x)/\Below w'.heap.size w' bU) :
  bE Tryz.prog 126 [v,.func (.func g) #[] cap.toArray] w λr w'=>(∃n:Int,r=.int .i64 n/\(0<=n↔l.any f=true))/\Below w.heap.size w w':=by
 obtain⟨a,c,rfl,hc⟩:=hv.shape;refine aE Tryz.func126 rfl (by kernel_rfl) [4] rfl ?_;push_cast -dsimp(maxSteps:=4000000) [Tryz.ntmps126];refine aL [4,5,8,9,10,11,12,13,14,15,16,17,18] (λz wx=>∃(i:Nat),z 8=.int .i64 i/\i<=l.length/\(∀x∈l.take i,f x=false)/\Below w.heap.size w wx) (λz _=>l.length-(intOf (z 8)).toNat) ?_ ?_
 ·exact⟨0,rfl,Nat.zero_le _,by simp,Below.refl _ _⟩
 intro z wx hI;obtain⟨i,h8,hi,bJ,hb⟩:=hI;push_cast -dsimp[h8];refine⟨λaw=>?_,λfT=>?_⟩
 ·obtain⟨x,hx,jQ,hd,ht⟩:=au (l:=l) (i:=i) (by omega);obtain⟨b,o,cs,ha,hX,hk,aK,hR⟩:=(hv.below hb).AQ hx;subst ha;obtain⟨u0,u1,u2,rfl⟩:∃u0 u1 u2,cs=[u0,u1,u2]:=(match cs,hk with|[u0,u1,u2],_=>⟨u0,u1,u2,rfl⟩);have c0:aB wx ⟨b,o+i*3,none⟩ 0 3=some [u0,u1,u2]:=(ax [u0,u1,u2] 0 (λj u hu=>by simpa using aK j u hu));push_cast -dsimp[c0]
  refine⟨⟨by omega,by omega⟩,?_⟩;refine aA (hf x jQ _ hR rfl wx hb) ?_;rintro _ w1 ⟨rfl,gX⟩;have nF:=hb.trans (gX.mono hb.size);push_cast -dsimp[Ez];refine⟨λyR=>?_,λeZ=>?_⟩
  ·exact⟨⟨i,rfl,⟨λ_=>List.any_eq_true.2 ⟨x,jQ,yR⟩,λ_=>by omega⟩⟩,nF⟩
  refine⟨⟨by omega,by omega⟩,⟨i+1,rfl,by omega,?_,nF⟩,by rw[h8];simp only[intOf];omega⟩;intro y hy;rw[ht,List.mem_append,List.mem_singleton]at hy;rcases hy with hy|rfl
  ·exact bJ y hy
  exact eZ
 refine⟨⟨-1,rfl,?_⟩,hb⟩;rw[List.take_of_length_le (by omega)]at bJ;constructor
 ·intro h;omega
 intro h;obtain⟨x,hx,hn⟩:=List.any_eq_true.1 h;rw[bJ x hx]at hn;cases hn
theorem sF {α:Type}(R:List Value->α->Prop)(g:FuncId)(cap:List Value)(f:α->Bool)(l:List α)(hl:l.length<1000000000)(X:Nat->Prop)(v:Value)(w:World)(hv:Sl X 3 R w v l)
  (hf:∀x∈l,∀cs,R cs x->cs.length=3->∀w',Below w.heap.size w w'->bE Tryz.prog g (elV cs::cap) w' λr bU=>r=.bool (f x)/\Below w'.heap.size w' bU) :
  bE Tryz.prog 84 [v,.func (.func g) #[] cap.toArray] w λr w'=>r=.bool (l.any f)/\Below w.heap.size w w':=by
 refine aE Tryz.func84 rfl (by kernel_rfl) [4] rfl ?_;push_cast -dsimp(maxSteps:=4000000) [Tryz.ntmps84];refine aA (MA R g cap f l hl X v w hv hf) ?_;rintro r w1 ⟨⟨n,rfl,hn⟩,hb⟩;push_cast -dsimp;refine⟨?_,hb⟩;congr 1;cases h:l.any f with
 | true=>rw[h]at hn;exact decide_eq_true (hn.2 rfl)
 | false=>rw[h]at hn;exact decide_eq_false (λh0=>by have:=hn.1 h0;cases this)
def Od (X:Nat->Prop)(w:World):List Value->List Rg->Prop:=λcs s=>∃u,cs=[u]/\Sl X 2 (En bL) w u s
def dy (X:Nat->Prop)(w:World)(v:Value)(l:List (List Rg)):Prop:=Sl X 1 (Od X w) w v l
def cW (X:Nat->Prop)(w:World)(v:Value)(c:aD):Prop:=∃sv iv,v=.agg #[sv,iv]/\dy X w sv c.sets/\Sl X 3 (En bV) w iv c.ins
theorem Od.mono {X X':Nat->Prop}{w w':World}{cs:List Value}{s:List Rg}(h:Od X w cs s)(hs:∀b,¬X b->b<w.heap.size->w'.heap[b]?=w.heap[b]?)(hX:∀b,X' b->X b):Od X' w' cs s:=by
 obtain⟨u,rfl,h⟩:=h;exact⟨u,rfl,h.mono hs (λ_ _ _ h=>h) hX⟩
theorem dy.mono {X X':Nat->Prop}{w w':World}{v:Value}{l:List (List Rg)}(h:dy X w v l)(hs:∀b,¬X b->b<w.heap.size->w'.heap[b]?=w.heap[b]?)(hX:∀b,X' b->X b):dy X' w' v l :=
 Sl.mono h hs (λ_ _ _ h=>h.mono hs hX) hX
theorem cW.mono {X X':Nat->Prop}{w w':World}{v:Value}{c:aD}(h:cW X w v c)(hs:∀b,¬X b->b<w.heap.size->w'.heap[b]?=w.heap[b]?)(hX:∀b,X' b->X b):cW X' w' v c:=by
 obtain⟨sv,iv,rfl,h1,h2⟩:=h;exact⟨sv,iv,rfl,h1.mono hs hX,h2.mono hs (λ_ _ _ h=>h) hX⟩
theorem dy.below {X:Nat->Prop}{w w':World}{v:Value}{l:List (List Rg)}(h:dy X w v l)(hb:Below w.heap.size w w'):dy X w' v l:=h.mono (λb _ aw=>hb.block b aw) (λ_ h=>h)
theorem cW.below {X:Nat->Prop}{w w':World}{v:Value}{c:aD}(h:cW X w v c)(hb:Below w.heap.size w w'):cW X w' v c:=h.mono (λb _ aw=>hb.block b aw) (λ_ h=>h)
theorem dy.kept {X Y:Nat->Prop}{w w':World}{v:Value}{l:List (List Rg)}(h:dy X w v l)(hb:Kept Y w w')(hY:∀i,Y i->X i):dy X w' v l:=h.mono (λb hx aw=>hb.block b aw λhh=>hx (hY b hh)) (λ_ h=>h)
theorem cW.kept {X Y:Nat->Prop}{w w':World}{v:Value}{c:aD}(h:cW X w v c)(hb:Kept Y w w')(hY:∀i,Y i->X i):cW X w' v c:=h.mono (λb hx aw=>hb.block b aw λhh=>hx (hY b hh)) (λ_ h=>h)
theorem wM (k n:Int)(b:Nat)(w:World)(hn:w.cell? ⟨b,0,none⟩=some (.int .i64 n)) :
  bE Tryz.prog 127 [.int .i64 k,.pointer (some ⟨b,0,none⟩)] w λr w'=>r=.bool (decide (0<=k/\k<n))/\w'=w:=by
 refine aE Tryz.func127 rfl (by kernel_rfl) [3] rfl ?_;push_cast -dsimp(maxSteps:=4000000) [Tryz.ntmps127];push_cast -dsimp[hn];constructor
 ·intro h;simp[h]
 intro h;simp[h]
theorem aBK (x:I3)(sets n:Int)(w:World) :
  bE Tryz.prog 86 [.agg #[.int .i64 x.op,.int .i64 x.a,.int .i64 x.b],.int .i64 sets,.int .i64 n] w λr w'=>r=.bool (bP x sets n)/\Below w.heap.size w w':=by
 refine aE Tryz.func86 rfl (by kernel_rfl) [6] rfl ?_;push_cast -dsimp(maxSteps:=4000000) [Tryz.ntmps86];refine aR ?_;intro w1 aZ;push_cast -dsimp;refine aR ?_;intro w2 bw;have hb:Below w.heap.size w w2:=aZ.below.trans (bw.below.mono (by have:=aZ.size;omega));have g:∀{j u},[Value.int .i64 x.op,.int .i64 x.a,.int .i64 x.b][j]?=some u->w2.cell? ⟨w.heap.size,j,none⟩=some u:=λ{j u} h=>(bw.below.cell (by have:=aZ.size;show w.heap.size<_;omega)).trans (aZ.cell h)
 have c0:w2.cell? ⟨w.heap.size,0,none⟩=some (.int .i64 x.op):=g rfl;have c1:w2.cell? ⟨w.heap.size,1,none⟩=some (.int .i64 x.a):=g rfl;have c2:w2.cell? ⟨w.heap.size,2,none⟩=some (.int .i64 x.b):=g rfl;have cn:w2.cell? ⟨w1.heap.size,0,none⟩=some (.int .i64 n):=bw.cell0;push_cast -dsimp[c0,c1,c2];unfold bP;refine⟨λh1=>?_,λh1=>⟨λh2=>?_,λh2=>⟨λh3=>?_,λh3=>?_⟩⟩⟩
 ·rw[if_pos h1]
  repeat' first|apply And.intro|intro _
  all_goals first|exact hb|(congr 1;rw[decide_eq_decide];omega)|(congr 1;exact(decide_eq_false (by omega)).symm)|(congr 1;exact(decide_eq_true (by omega)).symm)|omega
 ·rw[if_neg h1,if_pos h2];refine aA (wM _ n _ w2 cn) ?_;rintro _ w3 ⟨rfl,hw⟩;subst hw;push_cast -dsimp[c1,c2];refine⟨λha=>?_,λha=>⟨by congr 1;exact(decide_eq_false (by omega)).symm,hb⟩⟩;refine aA (wM _ n _ w3 cn) ?_;rintro _ w4 ⟨rfl,hw⟩;subst hw;push_cast -dsimp;exact⟨by congr 1;rw[decide_eq_decide];omega,hb⟩
 ·rw[if_neg h1,if_neg h2,if_pos h3];refine aA (wM _ n _ w2 cn) ?_;rintro _ w3 ⟨rfl,hw⟩;subst hw;push_cast -dsimp[c1,c2]
  repeat' first|apply And.intro|intro _
  all_goals first|exact hb|(congr 1;rw[decide_eq_decide];omega)|(congr 1;exact(decide_eq_false (by omega)).symm)|(congr 1;exact(decide_eq_true (by omega)).symm)|omega
 rw[if_neg h1,if_neg h2,if_neg h3];refine⟨λh4=>?_,λh4=>⟨λh5=>?_,λh5=>?_⟩⟩
 ·rw[if_pos (.inl h4)]
  repeat' first|apply And.intro|intro _
  all_goals first|exact hb|(congr 1;rw[decide_eq_decide];omega)|(congr 1;exact(decide_eq_false (by omega)).symm)|(congr 1;exact(decide_eq_true (by omega)).symm)|omega
 ·rw[if_pos (.inr h5)]
  repeat' first|apply And.intro|intro _
  all_goals first|exact hb|(congr 1;rw[decide_eq_decide];omega)|(congr 1;exact(decide_eq_false (by omega)).symm)|(congr 1;exact(decide_eq_true (by omega)).symm)|omega
 rw[if_neg (by omega)];exact⟨rfl,hb⟩
theorem M7 (x:I3)(bc bn:Nat)(a:Option Addr)(m cp:Nat)(n:Int)(w:World)(hc:w.cell? ⟨bc,0,none⟩=some (.slice a m cp))(hn:w.cell? ⟨bn,0,none⟩=some (.int .i64 n)) :
  bE Tryz.prog 85 [.agg #[.int .i64 x.op,.int .i64 x.a,.int .i64 x.b],.pointer (some ⟨bc,0,none⟩),.pointer (some ⟨bn,0,none⟩)] w λr w'=>r=.bool (!bP x m n)/\Below w.heap.size w w':=by
 refine aE Tryz.func85 rfl (by kernel_rfl) [4] rfl ?_;push_cast -dsimp(maxSteps:=4000000) [Tryz.ntmps85];refine aR ?_;intro w1 aZ;have d0:aB w1 ⟨w.heap.size,0,none⟩ 0 3=some [.int .i64 x.op,.int .i64 x.a,.int .i64 x.b]:=aZ.aN.aB;have dc:w1.cell? ⟨bc,0,none⟩=some (.slice a m cp):=(Kept.new aZ (X:=λ_=>False)).cell hc id;have dn:w1.cell? ⟨bn,0,none⟩=some (.int .i64 n):=(Kept.new aZ (X:=λ_=>False)).cell hn id;push_cast -dsimp[d0,dc,dn];refine aA (aBK x m n w1) ?_;rintro _ w2 ⟨rfl,eR⟩;push_cast -dsimp;exact aZ.below.trans (eR.mono (by have:=aZ.size;omega))
theorem M8 (s:List Rg)(hs:s.length<1000000000)(X:Nat->Prop)(v:Value)(w:World)(hv:Sl X 2 (En bL) w v s) :
  bE Tryz.prog 88 [v] w λr w'=>r=.bool (!aP (-2) s)/\Below w.heap.size w w':=by
 refine aE Tryz.func88 rfl (by kernel_rfl) [2] rfl ?_;push_cast -dsimp(maxSteps:=4000000) [Tryz.ntmps88];refine aA (tL s hs X v w hv) ?_;rintro _ w1 ⟨rfl,hb⟩;push_cast -dsimp;exact hb
def jx (c:aD):Prop:=∀s∈c.sets,s.length<1000000000
theorem Ec {α:Type}(l:List α)(f:α->Bool):(!(l.any λx=>!f x))=l.all f:=by
 induction l with
 | nil=>rfl
 | cons x l ih=>simp only[List.any_cons,List.all_cons,Bool.not_or,Bool.not_not,ih]
theorem mr (c:aD)(hl:jx c)(hi:c.ins.length<1000000000)(hs:c.sets.length<1000000000)(X:Nat->Prop)(v:Value)(w:World)(hv:cW X w v c) :
  bE Tryz.prog 51 [v] w λr w'=>r=.bool (ab c)/\Below w.heap.size w w':=by
 obtain⟨sv,iv,rfl,vP,vk⟩:=hv;obtain⟨a1,c1,rfl,QP⟩:=vP.shape;obtain⟨a2,c2,rfl,yM⟩:=vk.shape;refine aE Tryz.func51 rfl (by kernel_rfl) [2] rfl ?_;push_cast -dsimp(maxSteps:=4000000) [Tryz.ntmps51];refine aR ?_;intro w1 aZ;have d0:w1.cell? ⟨w.heap.size,0,none⟩=some (.slice a1 c.sets.length c1):=aZ.cell rfl;have d1:w1.cell? ⟨w.heap.size,1,none⟩=some (.slice a2 c.ins.length c2):=aZ.cell rfl;push_cast -dsimp[d0,d1];refine ag (z:=[.int .i64 0]) (by kernel_rfl) ?_;intro w2 bw;push_cast -dsimp;refine aC bw.aN (by simp) rfl ?_;intro w3 dZ;have fL:Below w.heap.size w w3:=aZ.below.trans ((bw.below.mono (by have:=aZ.size;omega)).trans (dZ.kept.below (by have:=aZ.size;have:=bw.size;omega) (λ_ h=>by have:=aZ.size;omega)));have e0:w3.cell? ⟨w.heap.size,0,none⟩=some (.slice a1 c.sets.length c1):=dZ.kept.cell ((Kept.new bw (X:=λ_=>False)).cell d0 id) (by have:=aZ.size;show ¬w.heap.size=w1.heap.size;omega)
 have e1:w3.cell? ⟨w.heap.size,1,none⟩=some (.slice a2 c.ins.length c2):=dZ.kept.cell ((Kept.new bw (X:=λ_=>False)).cell d1 id) (by have:=aZ.size;show ¬w.heap.size=w1.heap.size;omega)
 have en:w3.cell? ⟨w1.heap.size,0,none⟩=some (.int .i64 c.ins.length):=dZ.aN.cell rfl;push_cast -dsimp[en,e0,e1];have eZ:¬(1<=c.ins.length/\c.ins.length<=2000/\c.sets.length<=2000)->Value.bool false=Value.bool (ab c):=λh=>by
  congr 1;unfold ab;rw[decide_eq_false h];rfl
 refine⟨λh1=>⟨λh2=>⟨λh3=>⟨⟨by omega,by omega⟩,?_⟩,λh3=>⟨eZ (by omega),fL⟩⟩,λh2=>⟨eZ (by omega),fL⟩⟩,λh1=>⟨eZ (by omega),fL⟩⟩;obtain⟨x,hx,jQ,_,_⟩:=au (l:=c.ins) (i:=c.ins.length-1) (by omega);obtain⟨b,o,rfl,hX,aK⟩:=(vk.below fL).get hx;have c0:w3.cell? ⟨b,o+(c.ins.length-1)*3,none⟩=some (.int .i64 x.op):=aK 0 _ rfl;have aHw:((c.ins.length:Int)-1).toNat=c.ins.length-1:=by omega
 push_cast -dsimp[aHw,c0];have Dg:(x.op=1\/x.op=4)->Value.bool false=Value.bool (ab c):=λh=>by
  congr 1;unfold ab;rw[hx];dsimp only;rw[decide_eq_false (p:=x.op≠1/\x.op≠4) (by omega)];simp
 refine⟨⟨by omega,by omega⟩,λuP=>?_,λuP=>⟨Dg (.inl uP),fL⟩⟩;push_cast -dsimp[aHw,en,e1,c0];refine⟨⟨by omega,by omega⟩,⟨by omega,by omega⟩,λqQ=>⟨Dg (.inr qQ),fL⟩,λqQ=>?_⟩;have cN:ab c=(c.ins.all (λx=>bP x c.sets.length c.ins.length) && c.sets.all (aP (-2))):=by
  unfold ab;rw[hx];dsimp only;rw[decide_eq_true (by omega),decide_eq_true ⟨uP,qQ⟩,Bool.true_and,Bool.true_and]
 refine aA (sF (En bV) 85 [.pointer (some ⟨w.heap.size,0,none⟩),.pointer (some ⟨w1.heap.size,0,none⟩)] (λx=>!bP x c.sets.length c.ins.length) c.ins (by omega) X _ w3 (vk.below fL) ?_) ?_
 ·rintro y hy cs rfl _ w' CO;exact M7 y w.heap.size w1.heap.size a1 c.sets.length c1 c.ins.length w' ((CO.cell (World.block_lt_of_cell? w3 _ e0)).trans e0) ((CO.cell (World.block_lt_of_cell? w3 _ en)).trans en)
 rintro _ w4 ⟨rfl,kj⟩;have f0:=(kj.cell (World.block_lt_of_cell? w3 _ e0)).trans e0;have Fe:=fL.trans (kj.mono fL.size);push_cast -dsimp[f0];rw[Ec];cases hA:c.ins.all (λx=>bP x c.sets.length c.ins.length) with
 | false =>
  push_cast -dsimp;exact⟨by rw[cN,hA,Bool.false_and],Fe⟩
 | true =>
  push_cast -dsimp[f0];refine aA (Bl (Od X w4) 88 [] (λx=>!aP (-2) x) c.sets (by omega) X _ w4 (vP.below Fe) ?_) ?_
  ·rintro s Yo cs ⟨u,rfl,hu⟩ _ w' CO;exact M8 s (hl s Yo) X u w' (hu.below CO)
  rintro _ w5 ⟨rfl,ng⟩;push_cast -dsimp;exact⟨by rw[Ec,cN,hA,Bool.true_and],Fe.trans (ng.mono Fe.size)⟩
end Go.Proofs.YtledlfbbebodgaaGreatDoor
end
section
namespace Go.Proofs.YtledlfbbebodgaaGreatDoor
open Go.Vc Go.Proofs Go.RowKit Cae
attribute [local irreducible] dd ae ak a7 runK bE Sl Vc.Own vc aU cJ a8
open Go.Deep Go.ChangeShapes Go.WideShapes Go.ChangeAt
section
variable {H:Type} {enc:TypeId×Value->H} {W:World} {base:Nat} {sp:Nat->Bool} {held:Bool}
theorem aHo:Tryz.prog.cellsOf 3=1:=by kernel_rfl
end
end Go.Proofs.YtledlfbbebodgaaGreatDoor
end
section
namespace Go.Proofs.YtledlfbbebodgaaGreatDoor
open Go.Vc Go.Proofs Go.RowKit Cae
structure SV where
 a:Option Addr
 n:Nat
 c:Nat
def SV.v (s:SV):Value:=.slice s.a s.n s.c
def nD (s:SV):List Value:=[s.v]
theorem D2:∀x,∀u∈nD x,u.oneCell'=true:=by simp[nD,SV.v,Value.oneCell']
theorem jl:∀x,∀u∈bV x,u.oneCell'=true:=by simp[bV,Value.oneCell']
structure PV where
 b:Bool
 s1:SV
 i1:SV
 s2:SV
 i2:SV
def nC (u:PV):List Value:=[.bool u.b,u.s1.v,u.i1.v,u.s2.v,u.i2.v]
theorem D1:∀x,∀u∈nC x,u.oneCell'=true:=by simp[nC,SV.v,Value.oneCell']
theorem G9 {α β:Type}{base k:Nat}{e:TypeId}{enc:α->List Value}{R:List Value->β->Prop}{w:World}{v:Value}{us:List α}{l:List β}(h:Vc.Own base e k enc w v us)(hl:us.length=l.length)
  (hR:∀(i:Nat) (x:β),l[i]?=some x->∃u,us[i]?=some u/\R (enc u) x):Sl (·<base) k R w v l:=by
 have hs:=h.sl;unfold Sl at hs ⊢
 obtain⟨a,c,he,hc,hh⟩:=hs;refine⟨a,c,by rw[he,hl],by omega,λi x hx=>?_⟩;obtain⟨u,hu,hr⟩:=hR i x hx;obtain⟨b,o,cs,ha,hb,iW,aK,rfl⟩:=hh i u hu;exact⟨b,o,_,ha,hb,iW,aK,hr⟩
theorem Kv {α β:Type}{Pr:Nat->α->β->Prop}{us:List α}{l:List β}{u:α}{x:β}(hl:us.length=l.length)(h:∀(i:Nat) (y:β),l[i]?=some y->∃v,us[i]?=some v/\Pr i v y)(hx:Pr l.length u x) :
  ∀(i:Nat) (y:β),(l++[x])[i]?=some y->∃v,(us++[u])[i]?=some v/\Pr i v y:=by
 intro i y hy;rcases Nat.lt_trichotomy i l.length with aw|heq|HF
 ·rw[List.getElem?_append_left aw]at hy;obtain⟨v,h1,h2⟩:=h i y hy;exact⟨v,by rw[List.getElem?_append_left (by omega)];exact h1,h2⟩
 ·subst heq;rw[List.getElem?_append_right (Nat.le_refl _),Nat.sub_self]at hy;simp at hy;subst hy;exact⟨u,by rw[List.getElem?_append_right (by omega),hl,Nat.sub_self];rfl,hx⟩
 rw[List.getElem?_eq_none (by simp;omega)]at hy;cases hy
theorem dy.values {X:Nat->Prop}{w:World}{v:Value}{l:List (List Rg)}(h:dy X w v l):∃us:List SV,us.length=l.length/\Sl X 1 (En nD) w v us/\∀(i:Nat) (u:SV) (s:List Rg),us[i]?=some u->l[i]?=some s->Sl X 2 (En bL) w u.v s:=by
 have h0:=h.shape;obtain⟨a,c,rfl,hc⟩:=h0;have cN:∀(i:Nat) (s:List Rg),l[i]?=some s->∃u:SV,Sl X 2 (En bL) w u.v s/\∃b o,a=some ⟨b,o,none⟩/\¬X b/\w.cell? ⟨b,o+i,none⟩=some u.v:=λi s hs=>by
  obtain⟨b,o,cs,e,hX,iW,aK,u,rfl,hu⟩:=h.AQ hs;obtain⟨a',c',rfl,_⟩:=hu.shape;refine⟨⟨a',s.length,c'⟩,hu,b,o,e,hX,?_⟩
  have:=aK 0 _ rfl;rw[Nat.mul_one,Nat.add_zero]at this;rw[this];rfl
 have hex:∃us:List SV,us.length=l.length/\∀(i:Nat) (s:List Rg),l[i]?=some s->∃u,us[i]?=some u/\Sl X 2 (En bL) w u.v s/\∃b o,a=some ⟨b,o,none⟩/\¬X b/\w.cell? ⟨b,o+i,none⟩=some u.v:=by
  have key:∀n,n<=l.length->∃us:List SV,us.length=n/\∀(i:Nat) (s:List Rg),i<n->l[i]?=some s->∃u,us[i]?=some u/\Sl X 2 (En bL) w u.v s/\∃b o,a=some ⟨b,o,none⟩/\¬X b/\w.cell? ⟨b,o+i,none⟩=some u.v:=λn hn=>by
   induction n with
   | zero=>exact⟨[],rfl,λi s hi=>absurd hi (by omega)⟩
   | succ n ih =>
    obtain⟨us,hl,rO⟩:=ih (by omega);obtain⟨u,hu⟩:=cN n _ (List.getElem?_eq_getElem (by omega));refine⟨us++[u],by simp[hl],λi s hi hs=>?_⟩;by_cases e:i=n
    ·subst e;rw[List.getElem?_eq_getElem (by omega)]at hs;cases hs;exact⟨u,by rw[List.getElem?_append_right (by omega),hl,Nat.sub_self];rfl,hu⟩
    obtain⟨u',h1,h2⟩:=rO i s (by omega) hs;exact⟨u',by rw[List.getElem?_append_left (by omega)];exact h1,h2⟩
  obtain⟨us,h1,h2⟩:=key l.length (Nat.le_refl _);exact⟨us,h1,λi s hs=>h2 i s (List.getElem?_eq_some_iff.1 hs).1 hs⟩
 obtain⟨us,hl,rO⟩:=hex;refine⟨us,hl,⟨a,c,by rw[hl],by omega,λi u hu=>?_⟩,λi u s hu hs=>?_⟩
 ·have aw:=(List.getElem?_eq_some_iff.1 hu).1;obtain⟨u',h1,h2,b,o,e,hX,aK⟩:=rO i _ (List.getElem?_eq_getElem (by omega));rw[hu]at h1;cases h1;refine⟨b,o,[u.v],e,hX,rfl,λj x hx=>?_,rfl⟩;cases j with
  | zero=>simp at hx;subst hx;rw[Nat.mul_one,Nat.add_zero];exact aK
  | succ j=>simp at hx
 obtain⟨u',h1,h2,_⟩:=rO i s hs;rw[hu]at h1;cases h1;exact h2
theorem dy.rT {X:Nat->Prop}{w:World}{v:Value}{l:List (List Rg)}{us:List SV}(hl:us.length=l.length)(h:Sl X 1 (En nD) w v us)(hu:∀(i:Nat) (u:SV) (s:List Rg),us[i]?=some u->l[i]?=some s->Sl X 2 (En bL) w u.v s):dy X w v l:=by
 obtain⟨a,c,rfl,hc⟩:=h.shape;refine⟨a,c,by rw[hl],by omega,λi s hs=>?_⟩;have aw:=(List.getElem?_eq_some_iff.1 hs).1;have hx:=List.getElem?_eq_getElem (l:=us) (i:=i) (by omega);obtain⟨b,o,cs,e,hX,iW,aK,rfl⟩:=h.AQ hx;exact⟨b,o,_,e,hX,iW,aK,_,rfl,hu i _ s hx hs⟩
end Go.Proofs.YtledlfbbebodgaaGreatDoor
namespace Go.Vc
open Go.RowKit
theorem Sl.fresh {α:Type}{X X':Nat->Prop}{k:Nat}{enc:α->List Value}{w:World}{v:Value}{l:List α}(hk:∀x,0<(enc x).length)(h:Sl X k (En enc) w v l)(hX:∀b,X' b->X b\/w.heap.size<=b):Sl X' k (En enc) w v l:=by
 obtain⟨a,c,rfl,hc,h⟩:=h;refine⟨a,c,rfl,hc,λi x hx=>?_⟩;obtain⟨b,o,cs,e,jh,hl,aK,rfl⟩:=h i x hx;refine⟨b,o,_,e,λhb=>?_,hl,aK,rfl⟩;have:b<w.heap.size:=World.block_lt_of_cell? w _ (aK 0 _ (List.getElem?_eq_getElem (hk x)));rcases hX b hb with h|h
 ·exact jh h
 omega
theorem Own.aKb {α:Type}{base:Nat}{e:TypeId}{k:Nat}{enc:α->List Value}{w:World}{v:Value}{l:List α}(h:Vc.Own base e k enc w v l):Sl (λb=>v.ownBlock≠some b) k (En enc) w v l:=by
 have hs:=h.sl;obtain⟨a,c,rfl,hc,hs⟩:=hs;refine⟨a,c,rfl,hc,λi x hx=>?_⟩;obtain⟨b,o,cs,e,jh,hl,aK,iW⟩:=hs i x hx;refine⟨b,o,cs,e,?_,hl,aK,iW⟩;subst e;simp[Value.ownBlock]
end Go.Vc
namespace Go.Vc
theorem Sl.Nz {α:Type}{X Y Z:Nat->Prop}{k:Nat}{enc:α->List Value}{w w':World}{v:Value}{l:List α}(h:Sl X k (En enc) w v l)(hk:∀x,0<(enc x).length)(kc:Kept Y w w')(hY:∀i,Y i->X i)(hZ:∀b,Z b->X b\/w.heap.size<=b):Sl Z k (En enc) w' v l :=
 (((h.fresh hk (X':=λb=>X b\/Z b) (λb hb=>by
  rcases hb with hb|hb
  ·exact .inl hb
  exact hZ b hb)).kept kc (λi hi=>.inl (hY i hi))).weaken (λb hb=>.inr hb))
end Go.Vc
end
section
namespace Go.Proofs.YtledlfbbebodgaaGreatDoor
open Go.Vc Go.Proofs Go.RowKit Cae
attribute [local irreducible] dd ae ak a7 runK bE Sl Vc.Own vc aU cJ a8
def aHB (b:Bool):List Value:=[.bool b]
theorem sI {is:List Bool}:∀(f f' k:Nat),is.length<=f+k->is.length<=f'+k->bQ is f k=bQ is f' k
 | 0,f',k,h,h'=>by rw[bQ,pM f' (by omega)]
 | f+1,0,k,h,h'=>by rw[pM _ (by omega),bQ]
 | f+1,f'+1,k,h,h'=>by
  rw[bQ,bQ];split
  ·rfl
  split
  ·exact sI f f' (k+1) (by omega) (by omega)
  rfl
theorem BH (is:List Bool)(k:Nat)(h:k<is.length):sJ is k=bQ is (is.length-(k+1)) (k+1):=sI _ _ _ (by omega) (by omega)
theorem VA (c:aD)(hc:CR c)(k:Nat)(hk:k<c.ins.length)(X:Nat->Prop)(v:Value)(w:World)(hv:cW X w v c) :
  bE Tryz.prog 140 [v,.int .i64 k] w λr w'=>r=.int .i64 (gT c k)/\Below w.heap.size w w':=by
 have hm:=hc.many;obtain⟨sv,iv,rfl,vP,vk⟩:=hv;obtain⟨a,cp,rfl,N3⟩:=vk.shape;refine aE Tryz.func140 rfl (by kernel_rfl) [4] rfl ?_;push_cast -dsimp(maxSteps:=4000000) [Tryz.ntmps140];refine aR ?_;intro w1 aZ;have aZ:ly w w1 70 [sv,.slice a c.ins.length cp]:=aZ;have c0:w1.cell? ⟨w.heap.size,1,none⟩=some (.slice a c.ins.length cp):=aZ.cell rfl;push_cast -dsimp[c0];refine aL [1,8,9,10,11,12,13,14,15,16,17,18,19,20,21,22,23] (λz wx=>∃(i k':Nat),z 8=.int .i64 i/\z 1=.int .i64 k'/\i<=c.ins.length/\k'<c.ins.length/\sY c (c.ins.length-i) k'=gT c k/\wx=w1) (λz _=>c.ins.length-(intOf (z 8)).toNat) ?_ ?_
 ·exact⟨0,k,rfl,rfl,Nat.zero_le _,hk,rfl,rfl⟩
 intro z wx hI;obtain⟨i,k',h8,h1,hi,CQ,hf,rfl⟩:=hI;have hg:=au (l:=c.ins) (i:=k') CQ;obtain⟨x,hx,jQ,_⟩:=hg;have hg:=(vk.below aZ.below).get hx;obtain⟨b,o,rfl,hX,aK⟩:=hg;have e0:wx.cell? ⟨b,o+k'*3,none⟩=some (.int .i64 x.op):=by simpa using aK 0 _ rfl
 have e1:wx.cell? ⟨b,o+k'*3+1,none⟩=some (.int .i64 x.a):=by simpa using aK 1 _ rfl
 push_cast -dsimp[h8,h1,c0,e0,e1];refine⟨λaw=>⟨⟨by omega,by omega⟩,λh3=>?_,λh3=>?_⟩,λfT=>?_⟩
 ·have e:sY c (c.ins.length-i) k'=k':=by
   rw[show c.ins.length-i=(c.ins.length-i-1)+1 by omega,sY,hx]
   dsimp only;rw[if_neg h3]
  rw[<-hf,e];exact⟨rfl,aZ.below⟩
 ·have h3:x.op=3:=Classical.byContradiction h3;have hj:=iY hc hx h3;have e:sY c (c.ins.length-i) k'=sY c (c.ins.length-(i+1)) x.a.toNat:=by
   rw[show c.ins.length-i=(c.ins.length-(i+1))+1 by omega,sY,hx]
   dsimp only;rw[if_pos h3]
  refine⟨⟨by omega,by omega⟩,⟨by omega,by omega⟩,⟨i+1,x.a.toNat,rfl,?_,by omega,hj.2.1,by rw[<-e];exact hf⟩,?_⟩
  ·rw[Int.toNat_of_nonneg hj.1]
  simp only[intOf];omega
 have e:c.ins.length-i=0:=by omega
 rw[e,sY]at hf;rw[<-hf];exact⟨rfl,aZ.below⟩
theorem XF (is:List Bool)(hn:is.length<1000000)(k:Nat)(X:Nat->Prop)(v:Value)(w:World)(hv:Sl X 1 (En aHB) w v is)(hk:k<is.length) :
  bE Tryz.prog 139 [v,.int .i64 k] w λr w'=>r=.int .i64 (sJ is k)/\w'=w:=by
 obtain⟨a,cp,rfl,N3⟩:=hv.shape;refine aE Tryz.func139 rfl (by kernel_rfl) [4] rfl ?_;push_cast -dsimp(maxSteps:=4000000) [Tryz.ntmps139];refine⟨⟨by omega,by omega⟩,?_⟩;refine aL [4,5,8,9,10,11,12,13,14,15,16,17,18] (λz wx=>∃(i:Nat),z 5=.int .i64 i/\k<i/\i<=is.length/\sJ is k=bQ is (is.length-i) i/\wx=w) (λz _=>is.length-(intOf (z 5)).toNat) ?_ ?_
 ·refine⟨k+1,rfl,by omega,by omega,?_,rfl⟩;exact BH is k (by omega)
 intro z wx hI;obtain⟨i,h5,Yj,hi,hN,rfl⟩:=hI;rcases Nat.lt_or_ge i is.length with aw|fT
 ·have hg:=au (l:=is) (i:=i) aw;obtain⟨x,hx,jQ,_⟩:=hg;have hg:=hv.get hx;obtain⟨b,o,rfl,hX,aK⟩:=hg;have e0:wx.cell? ⟨b,o+i,none⟩=some (.bool x):=by simpa using aK 0 _ rfl
  have es:is.length-i=(is.length-(i+1))+1:=by omega
  cases x with
  | true =>
   push_cast -dsimp[h5,e0];rw[es,G2 hx]at hN;rw[hN];exact⟨λ_=>⟨⟨by omega,by omega⟩,rfl⟩,λh=>absurd h (by omega)⟩
  | false =>
   push_cast -dsimp[h5,e0];rw[es,DE (by rw[hx];simp) aw]at hN;refine⟨λ_=>⟨⟨by omega,by omega⟩,⟨by omega,by omega⟩,⟨i+1,rfl,by omega,by omega,hN⟩,by simp only[intOf];omega⟩,λh=>absurd h (by omega)⟩
 push_cast -dsimp[h5];refine⟨λh=>absurd h (by omega),λ_=>?_⟩;rw[pM _ fT]at hN;rw[hN]
theorem AD (l:List I3)(hl:l.length<1000000)(X:Nat->Prop)(v:Value)(w:World)(hv:Sl X 3 (En bV) w v l)(dD:l≠[]) :
  bE Tryz.prog 108 [v] w λr w'=>Vc.Own w.heap.size 109 3 bV w' r l/\Below w.heap.size w w':=by
 obtain⟨a,c,rfl,hc⟩:=hv.shape;refine aE Tryz.func108 rfl (by kernel_rfl) [2] rfl ?_;push_cast -dsimp(maxSteps:=4000000) [Tryz.ntmps108];cases a with
 | none =>
  obtain⟨x,r,rfl⟩:=List.exists_cons_of_ne_nil dD;have hg:=hv.get (i:=0) (x:=x) rfl;obtain⟨b,o,h,_⟩:=hg;cases h
 | some ad =>
  push_cast -dsimp[aHI];refine cT gj rfl rfl (by omega) ?_;intro w1 aZ;have uP:=aZ.own (base:=w.heap.size) (k:=3) (n:=0) (enc:=bV) (l:=[]) rfl rfl (λ_=>rfl) (Nat.le_refl _) (by omega);have sM:=aZ.size;push_cast -dsimp;refine ln (base:=w.heap.size) (enc:=bV) (ys:=l) gj uP (hv.below aZ.below) (λn c h=>by cases h) jl (by simp only[List.length_nil];omega) (by omega) ?_;intro v' w2 ob hg2 eR;rw[List.nil_append]at ob;push_cast -dsimp;exact⟨ob,aZ.below.trans eR⟩
end Go.Proofs.YtledlfbbebodgaaGreatDoor
end
section
namespace Go.Proofs.YtledlfbbebodgaaGreatDoor
open Go.Vc Go.Proofs Go.RowKit Cae
attribute [local irreducible] dd ae ak a7 runK bE Sl Vc.Own vc aU cJ a8
attribute [local irreducible] gT bO
theorem oC {X:Nat->Prop}{base:Nat}{w:World}{sv iv:Value}{c:aD}{sets:List (List Rg)}(hX:∀b,X b->b<base)(vP:dy X w sv sets)(ho:Vc.Own base 109 3 bV w iv c.ins)(hs:c.sets=sets):cW X w (.agg #[sv,iv]) c :=
 ⟨sv,iv,rfl,by rw[hs];exact vP,ho.sl.weaken hX⟩
theorem Mp (c:aD)(hc:CR c)(X:Nat->Prop)(v:Value)(w:World)(hX:∀b,X b->b<w.heap.size)(hv:cW X w v c) :
  bE Tryz.prog 106 [v] w λr w'=>cW X w' r (oX c)/\Below w.heap.size w w':=by
 have hm:=hc.many;have so:=hc.one;obtain⟨sv,iv,rfl,aJF,aNo⟩:=hv;have vP:dy (λ_=>False) w sv c.sets:=aJF.mono (λ_ _ _=>rfl) (λ_ h=>h.elim);have vk:=aNo.weaken (X':=λ_=>False) (λ_ h=>h.elim);obtain⟨a,cp,rfl,N3⟩:=vk.shape;have GF:=vP.shape;obtain⟨sa,sc,aOh,vz⟩:=GF;refine jm Tryz.func106 rfl (by kernel_rfl) [.cell 2 70] rfl ?_;push_cast -dsimp(maxSteps:=4000000) [Tryz.ntmps106];refine aR ?_;intro w1 aZ;have aZ:ly w w1 70 [sv,.slice a c.ins.length cp]:=aZ;have sM:=aZ.size;push_cast -dsimp;refine ag (z:=[.slice none 0 0,.slice none 0 0]) (by kernel_rfl) ?_;intro w2 bw;have HQ:=bw.size;have eR:Below w.heap.size w w2:=aZ.below.trans (bw.below.mono (by omega));have iL:aM w2 w.heap.size 70 [sv,.slice a c.ins.length cp]:=aZ.aN.below bw.below (by omega);have c0:w2.cell? ⟨w.heap.size,1,none⟩=some (.slice a c.ins.length cp):=iL.cell rfl;push_cast -dsimp[c0];refine aA (AD c.ins (by omega) (λ_=>False) _ w2 (vk.below eR) (λh=>by rw[h]at so;simp at so)) ?_;rintro v3 w3 ⟨oH,fL⟩;have TJ:=fL.size;have Ps:=iL.below fL (by omega);have hR3:aM w3 w1.heap.size 70 [.slice none 0 0,.slice none 0 0]:=bw.aN.below fL (by omega);have kT:=oH.slice;obtain⟨ga,gc,rfl⟩:=kT;have kT:=oH.cut;rcases kT with ⟨_,h0,_⟩|⟨g,rfl,_,hle,_⟩
 ·omega
 have yl:=oH.block g rfl;push_cast -dsimp;refine aC Ps (by simp) rfl ?_;intro w4 az;have Fe:aM w4 w.heap.size 70 [sv,.slice (some ⟨g,0,none⟩) c.ins.length gc]:=az.aN;have Yu:=az.size;have qQ:=oH.aI az.kept (λg' vM h=>by have:g=g':=(by simpa[Value.ownBlock] using vM);omega);have hR4:=hR3.kept az.kept (by omega);have kj:Below w.heap.size w w4:=eR.trans ((fL.mono (by omega)).trans (az.kept.below (by omega) (λ_ h=>by omega)));have c4:w4.cell? ⟨w.heap.size,1,none⟩=some (.slice (some ⟨g,0,none⟩) c.ins.length gc):=Fe.cell rfl;push_cast -dsimp[c4];refine aL [3,4,5,6,14,15,16,17,18,19,20,21,22,23,24,25,26,27,28,29,30,31,32,33,34,35,36,37,38,39,40,41,42,43,44,45,46,47,48,49,50,51,52,53,54,55,56,57,58,59,60,61,62,63] (λz wx=>∃(i:Nat),z 14=.int .i64 i/\i<=c.ins.length/\Vc.Own w2.heap.size 109 3 bV wx (.slice (some ⟨g,0,none⟩) c.ins.length gc) (ah c i).ins/\aM wx w.heap.size 70 [sv,.slice (some ⟨g,0,none⟩) c.ins.length gc] /\
   aM wx w1.heap.size 70 [.slice none 0 0,.slice none 0 0]/\Below w.heap.size w wx/\w4.heap.size<=wx.heap.size) (λz _=>c.ins.length-(intOf (z 14)).toNat) ?_ ?_
 ·exact⟨0,rfl,Nat.zero_le _,qQ,Fe,hR4,kj,Nat.le_refl _⟩
 intro z wx hI;obtain⟨i,h14,hi,kB,nu,yj,bT,EZ⟩:=hI;have tV:=ns hc i;obtain⟨hCi,A8,hlen,_,WN⟩:=tV;push_cast -dsimp[h14];refine⟨λaw=>?_,λfT=>?_⟩
 ·have hg:=au (l:=(ah c i).ins) (i:=i) (by omega);obtain⟨x,hx,jQ,_⟩:=hg;have hg:=kB.sl.get hx;obtain⟨b,o,e,_,aK⟩:=hg;cases e;have ce:aB wx ⟨g,0+i*3,none⟩ 0 3=some (bV x):=ax (bV x) 0 (λj u hu=>by simpa using aK j u hu);rw[Nat.zero_add]at ce;unfold bV at ce;push_cast -dsimp[ce];refine⟨⟨by omega,by omega⟩,?_⟩;refine ag (z:=[.int .i64 0,.int .i64 0,.int .i64 0]) (by kernel_rfl) ?_;intro w5 cO;have SX:=cO.size;push_cast -dsimp;refine aJ (n:=3) (by kernel_rfl) cO.aN rfl (by simp) (by simp[Value.oneCell']) ?_;intro w6 bZ;have Mm:=bZ.size;have CM:aM w6 wx.heap.size 109 [.int .i64 x.op,.int .i64 x.a,.int .i64 x.b]:=bZ.aN;have k6:Kept (λj=>j=wx.heap.size) wx w6:=(Kept.new cO).trans bZ.kept (λ_ _ h=>h);have vv:=kB.aI k6 (λg' vM h=>by have:=kB.block g' vM;omega);have yI:=nu.kept k6 (by omega);have hR6:=yj.kept k6 (by omega);have lp:Below w.heap.size w w6:=bT.trans (k6.below (by omega) (λ_ h=>by omega));have c6:w6.cell? ⟨wx.heap.size,0,none⟩=some (.int .i64 x.op):=CM.cell rfl;push_cast -dsimp[c6];have Sx:∀w',Kept (λ_=>False) w6 w'->cW (λ_=>False) w' (.agg #[sv,.slice (some ⟨g,0,none⟩) c.ins.length gc]) (ah c i):=λw' CQ =>
   oC (sets:=c.sets) (base:=w2.heap.size) (λ_ h=>h.elim) (dy.below (w:=w6) (dy.below vP lp) (CQ.below (Nat.le_refl _) (λ_ h=>h.elim))) (vv.aI CQ (λ_ _ h=>h)) A8
  have jD:(ah c (i+1)).ins=(ah c i).ins.set i (bO (ah c i) x):=by
   rw[ah];unfold fQ;rw[hx]
  refine⟨λh3=>?_,λh3=>?_⟩
  ·have hj:=iY hCi hx h3;have Fh:x.a=((x.a.toNat:Nat):Int):=by rw[Int.toNat_of_nonneg hj.1]
   have ey:bO (ah c i) x=⟨x.op,gT (ah c i) x.a.toNat,x.b⟩:=by unfold bO;rw[if_pos h3]
   refine eE (λw'=>aM w' w.heap.size 70 [sv,.slice (some ⟨g,0,none⟩) c.ins.length gc]/\aM w' wx.heap.size 109 [.int .i64 x.op,.int .i64 x.a,.int .i64 x.b]) mixed (by kernel_rfl) (List.cons_ne_nil _ _) ⟨yI.drew,CM.drew⟩ ?_;have q1:w6.drew.cell? ⟨w.heap.size,1,none⟩=some (.slice (some ⟨g,0,none⟩) c.ins.length gc):=yI.drew.cell rfl;have q2:w6.drew.cell? ⟨wx.heap.size,1,none⟩=some (.int .i64 x.a):=CM.drew.cell rfl;have q3:=yI.drew.aB;simp only[List.length_cons,List.length_nil,Nat.zero_add,Nat.reduceAdd]at q3;push_cast -dsimp[q1,q2,q3];refine⟨λbU hC=>gV hC.1 rfl,λbU hC=>G7 hC.1 rfl rfl,λbU hC=>gV hC.2 rfl,?_⟩;have xN:Kept (λ_=>False) w6 w6.drew:=(Kept.refl _ _).drew;rw[Fh];refine aA (VA (ah c i) hCi x.a.toNat (by omega) (λ_=>False) _ _ (Sx _ xN)) ?_;rintro _ w7 ⟨rfl,nw⟩;have mP:Kept (λ_=>False) w6 w7:=xN.trans (Kept.aO nw (λj h1 h2=>absurd h2 (by omega))) (λ_ _ h=>h);have Mn:=mP.size;have rN:=vv.aI mP (λ_ _ h=>h);have hB7:=yI.kept mP id;have yL:=CM.kept mP id;have NW:=hR6.kept mP id;have jL:Below w.heap.size w w7:=lp.trans (mP.below (by omega) (λ_ h=>h.elim));rw[<-Fh];refine⟨⟨hB7,yL⟩,?_⟩;push_cast -dsimp;refine⟨⟨by omega,by omega⟩,?_⟩;refine fy (i:=i) (f:=1) (y:=bO (ah c i) x) rN rfl hx (by omega) (by rw[ey];rfl) rfl ?_;intro w8 tU TC sz8;rw[<-jD]at tU;have hB8:=hB7.kept TC (by omega);have hR8:=NW.kept TC (by omega);have jg:Below w.heap.size w w8:=jL.trans (TC.below (by omega) (λ_ h=>by omega));push_cast -dsimp
   exact⟨⟨by omega,by omega⟩,⟨i+1,rfl,by omega,tU,hB8,hR8,jg,by omega⟩,by rw[h14];simp only[intOf];omega⟩
  refine⟨λh2=>?_,λh2=>?_⟩
  ·have hj:=mS hCi hx h2;have Fh:x.a=((x.a.toNat:Nat):Int):=by rw[Int.toNat_of_nonneg hj.1]
   have QK:x.b=((x.b.toNat:Nat):Int):=by rw[Int.toNat_of_nonneg hj.2.2.1]
   refine bx (λw'=>aM w' w.heap.size 70 [sv,.slice (some ⟨g,0,none⟩) c.ins.length gc]/\aM w' wx.heap.size 109 [.int .i64 x.op,.int .i64 x.a,.int .i64 x.b]) mixed (by kernel_rfl) ⟨yI.drew,CM.drew⟩ ?_;have q1:w6.drew.cell? ⟨wx.heap.size,2,none⟩=some (.int .i64 x.b):=CM.drew.cell rfl;have q2:w6.drew.cell? ⟨wx.heap.size,1,none⟩=some (.int .i64 x.a):=CM.drew.cell rfl;have q3:=yI.drew.aB;simp only[List.length_cons,List.length_nil,Nat.zero_add,Nat.reduceAdd]at q3;push_cast -dsimp[q1,q2,q3];refine⟨λbU hC=>G7 hC.1 rfl rfl,λbU hC=>gV hC.2 rfl,?_⟩;have xN:Kept (λ_=>False) w6 w6.drew:=(Kept.refl _ _).drew;rw[Fh];refine aA (VA (ah c i) hCi x.a.toNat (by omega) (λ_=>False) _ _ (Sx _ xN)) ?_;rintro _ w7 ⟨rfl,nw⟩;have mP:Kept (λ_=>False) w6 w7:=xN.trans (Kept.aO nw (λj h1 h2=>absurd h2 (by omega))) (λ_ _ h=>h);have Mn:=mP.size;have rN:=vv.aI mP (λ_ _ h=>h);have hB7:=yI.kept mP id;have yL:=CM.kept mP id;have NW:=hR6.kept mP id;have jL:Below w.heap.size w w7:=lp.trans (mP.below (by omega) (λ_ h=>h.elim));rw[<-Fh];refine⟨⟨hB7,yL⟩,?_⟩;have q4:=hB7.aB;have q5:w7.cell? ⟨wx.heap.size,2,none⟩=some (.int .i64 x.b):=yL.cell rfl;simp only[List.length_cons,List.length_nil,Nat.zero_add,Nat.reduceAdd]at q4;push_cast -dsimp[q4,q5];refine⟨λbU hC=>G7 hC.1 rfl rfl,λbU hC=>gV hC.2 rfl,?_⟩;rw[QK];refine aA (VA (ah c i) hCi x.b.toNat (by omega) (λ_=>False) _ _ (Sx _ mP)) ?_;rintro _ w8 ⟨rfl,jg⟩;have TC:Kept (λ_=>False) w6 w8:=mP.trans (Kept.aO jg (λj h1 h2=>absurd h2 (by omega))) (λ_ _ h=>h);have sz8:=TC.size
   have tU:=vv.aI TC (λ_ _ h=>h);have hB8:=yI.kept TC id;have hT8:=CM.kept TC id;have hR8:=hR6.kept TC id;have aEs:Below w.heap.size w w8:=lp.trans (TC.below (by omega) (λ_ h=>h.elim));rw[<-QK];refine⟨⟨hB8,hT8⟩,?_⟩;push_cast -dsimp;refine bx (λw'=>aM w' w.heap.size 70 [sv,.slice (some ⟨g,0,none⟩) c.ins.length gc]) mixed (by kernel_rfl) hB8.drew ?_;have q6:w8.drew.cell? ⟨w.heap.size,1,none⟩=some (.slice (some ⟨g,0,none⟩) c.ins.length gc):=hB8.drew.cell rfl;push_cast -dsimp[q6];refine⟨λbU hC=>gV hC rfl,λbU hC=>gV hC rfl,⟨by omega,by omega⟩,?_⟩;have aNT:=tU.aI (Kept.refl (λ_=>False) _).drew (λ_ _ h=>h);refine fy (i:=i) (f:=1) (y:=⟨x.op,gT (ah c i) x.a.toNat,x.b⟩) aNT rfl hx (by omega) rfl rfl ?_;intro w9 A5 WB sz9;have CI:=hB8.drew.kept WB (by omega);have hR9:=hR8.drew.kept WB (by omega);have qI:Below w.heap.size w w9:=aEs.drew.trans (WB.below (by show w.heap.size<=w8.heap.size;omega) (λ_ h=>by omega))
   have aUh:w9.heap.size=w8.heap.size:=sz9;refine⟨CI,?_⟩;push_cast -dsimp;refine⟨⟨by omega,by omega⟩,?_⟩;have hx9:((ah c i).ins.set i ⟨x.op,gT (ah c i) x.a.toNat,x.b⟩)[i]?=some ⟨x.op,gT (ah c i) x.a.toNat,x.b⟩:=by rw[List.getElem?_set,if_pos rfl,if_pos (by omega)]
   refine fy (i:=i) (f:=2) (y:=⟨x.op,gT (ah c i) x.a.toNat,gT (ah c i) x.b.toNat⟩) A5 rfl hx9 (by omega) rfl rfl ?_;intro TK aAB aEO aUf;rw[List.set_set]at aAB;have Zn:=CI.kept aEO (by omega);have aIj:=hR9.kept aEO (by omega);have QH:Below w.heap.size w TK:=qI.trans (aEO.below (by omega) (λ_ h=>by omega));have q7:TK.cell? ⟨w.heap.size,1,none⟩=some (.slice (some ⟨g,0,none⟩) c.ins.length gc):=Zn.cell rfl;refine⟨Zn,?_⟩;push_cast -dsimp[q7];refine⟨λhe=>?_,λhe=>?_⟩
   ·have Vu:gT (ah c i) x.a.toNat=gT (ah c i) x.b.toNat:=by omega
    have ey:bO (ah c i) x=⟨3,gT (ah c i) x.a.toNat,0⟩:=by unfold bO;rw[if_neg h3,if_pos h2,if_pos Vu]
    refine⟨⟨by omega,by omega⟩,?_⟩;refine SS (k:=3) (i:=i) (y:=bO (ah c i) x) (by kernel_rfl) aAB rfl (by rw[List.length_set];omega) (by rw[ey];rfl) (by simp[Value.oneCell']) ?_;intro Sf Is aEP aKf;rw[List.set_set,<-jD]at Is;have aLP:=Zn.kept aEP (by omega);have aMj:=aIj.kept aEP (by omega);have aME:Below w.heap.size w Sf:=QH.trans (aEP.below (by omega) (λ_ h=>by omega));push_cast -dsimp;exact⟨⟨by omega,by omega⟩,⟨i+1,rfl,by omega,Is,aLP,aMj,aME,by omega⟩,by rw[h14];simp only[intOf];omega⟩
   have Vu:¬gT (ah c i) x.a.toNat=gT (ah c i) x.b.toNat:=by omega
   have ey:bO (ah c i) x=⟨x.op,gT (ah c i) x.a.toNat,gT (ah c i) x.b.toNat⟩:=by unfold bO;rw[if_neg h3,if_pos h2,if_neg Vu]
   rw[<-ey,<-jD]at aAB;exact⟨⟨by omega,by omega⟩,⟨i+1,rfl,by omega,aAB,Zn,aIj,QH,by omega⟩,by rw[h14];simp only[intOf];omega⟩
  have ey:bO (ah c i) x=x:=by unfold bO;rw[if_neg h3,if_neg h2]
  have e:(ah c (i+1)).ins=(ah c i).ins:=by
   rw[jD,ey];apply List.ext_getElem?;intro j;rw[List.getElem?_set];split
   ·rename_i e;subst e;rw[if_pos (by omega),hx]
   rfl
  rw[<-e]at vv;exact⟨⟨by omega,by omega⟩,⟨i+1,rfl,by omega,vv,yI,hR6,lp,by omega⟩,by rw[h14];simp only[intOf];omega⟩
 have nH:i=c.ins.length:=by omega
 subst nH;have q3:=nu.aB;simp only[List.length_cons,List.length_nil,Nat.zero_add,Nat.reduceAdd]at q3;push_cast -dsimp[q3];refine aJ (n:=2) (by kernel_rfl) yj rfl (by simp) (by simp[aOh,Value.oneCell']) ?_;intro w5 cO;have SX:=cO.size;have q5:aB w5 ⟨w1.heap.size,0,none⟩ 0 2=some [sv,.slice (some ⟨g,0,none⟩) c.ins.length gc]:=cO.aN.aB;push_cast -dsimp[q5];have aIN:Below w.heap.size w w5:=bT.trans (cO.kept.below (by omega) (λ_ h=>by omega));exact⟨oC (sets:=c.sets) (λb h=>by have:=hX b h;omega) (dy.below aJF aIN) (kB.aI cO.kept (λg' vM h=>by have:=kB.block g' vM;omega)) A8,aIN⟩
end Go.Proofs.YtledlfbbebodgaaGreatDoor
end
section
namespace Go.Proofs.YtledlfbbebodgaaGreatDoor
open Go.Vc Go.Proofs Go.RowKit Cae
attribute [local irreducible] dd ae ak a7 runK bE Sl Vc.Own vc aU cJ a8
def gb (n:Nat)(q:List Nat):List Value:=(List.range n).map λi=>.bool (decide (i∈q))
theorem oV {n:Nat}{q:List Nat}{k:Nat}(hk:k<n):(gb n q)[k]?=some (.bool (decide (k∈q))):=by
 simp[gb,hk]
theorem SE {n:Nat}{q:List Nat}{k:Nat}(hk:k<n):(gb n q).set k (.bool true)=gb n (q++[k]):=by
 apply List.ext_getElem?;intro i;rw[List.getElem?_set];by_cases hi:i<n
 ·rw[oV hi,oV hi];split
  ·rename_i e;subst e;rw[if_pos (by simpa[gb] using hk)];simp
  rename_i e;congr 2;rw[decide_eq_decide];simp only[List.mem_append,List.mem_singleton];constructor
  ·intro h;exact .inl h
  rintro(h|h)
  ·exact h
  exact absurd h.symm e
 have h1:(gb n q)[i]?=none:=List.getElem?_eq_none (by simp[gb];omega);have h2:(gb n (q++[k]))[i]?=none:=List.getElem?_eq_none (by simp[gb];omega);rw[h1,h2,if_neg (by omega)]
def Th (w:World)(p n:Nat)(q:List Nat)(F:Nat->Prop):Prop :=
 ∃lv sb,aM w p 122 [lv,.slice (some ⟨sb,0,none⟩) n n]/\Vc.Own 0 3 1 aY w lv q/\aM w sb 4 (gb n q)/\p≠sb/\(∀g,lv.ownBlock=some g->g≠p/\g≠sb/\F g)/\F p/\F sb/\bh n q
theorem Th.kept {w w':World}{p n:Nat}{q:List Nat}{F X:Nat->Prop}(h:Th w p n q F)(hk:Kept X w w')(hX:∀k,F k->¬X k):Th w' p n q F:=by
 obtain⟨lv,sb,h1,h2,h3,h4,h5,h6,h7,h8⟩:=h;exact⟨lv,sb,h1.kept hk (hX p h6),h2.aI hk (λg hg=>hX g (h5 g hg).2.2),h3.kept hk (hX sb h7),h4,h5,h6,h7,h8⟩
theorem aDn (p n:Nat)(q:List Nat)(F:Nat->Prop)(k:Nat)(hk:k<n)(hn:n<1000000)(w:World)(h:Th w p n q F) :
  bE Tryz.prog 52 [.pointer (some ⟨p,0,none⟩),.int .i64 k] w λ_ w'=>Kept F w w'/\Th w' p n (jS q k) (λj=>F j\/w.heap.size<=j):=by
 obtain⟨lv,sb,hp,hl,hs,dD,hg,hFp,hFs,hP⟩:=h;have c0:w.cell? ⟨p,0,none⟩=some lv:=hp.cell rfl;have c1:w.cell? ⟨p,1,none⟩=some (.slice (some ⟨sb,0,none⟩) n n):=hp.cell rfl;have cs:w.cell? ⟨sb,k,none⟩=some (.bool (decide (k∈q))):=hs.cell (oV hk);refine aE Tryz.func52 rfl (by kernel_rfl) [] rfl ?_;push_cast -dsimp(maxSteps:=4000000) [Tryz.ntmps52];push_cast -dsimp[c1,cs];refine⟨⟨by omega,by omega⟩,?_⟩;have hql:=hP.len;refine⟨λpk=>⟨⟨by omega,by omega⟩,?_⟩,λpk=>?_⟩
 ·have pk:k ∉ q:=pk;refine aC hs (by simp[gb];exact hk) rfl ?_;intro w1 aZ;rw[SE hk]at aZ;have HI:=hp.kept aZ.kept (by exact dD);have d0:w1.cell? ⟨p,0,none⟩=some lv:=HI.cell rfl;have vn:=hl.aI aZ.kept (λg vM=>(hg g vM).2.1);push_cast -dsimp[d0];refine cT bA rfl rfl (by omega) ?_;intro w2 bw;push_cast -dsimp;have hp2:=HI.kept (Kept.new bw (X:=λ_=>False)) id;have gd:=aZ.aN.kept (Kept.new bw (X:=λ_=>False)) id;have aTJ:=bw.size;have aOi:=aZ.size;refine aS (base:=0) [k] (enc:=aY) bA (vn.new bw) rfl (λj u hu=>by simpa using bw.cell hu) (by simp[aY,Value.oneCell']) (by simp only[List.length_cons,List.length_nil];omega) (Nat.zero_le _) ?_;intro v' w3 oH hg3 hn3;have hgk:Kept (λj=>lv.ownBlock=some j) w2 w3:=Kept.grown hg3 (λ_ h=>h);have hp3:=hp2.kept hgk (λh=>(hg _ h).1 rfl);have lW:=gd.kept hgk (λh=>(hg _ h).2.1 rfl);obtain⟨a3,c3,hv3⟩:=oH.slice;subst hv3;push_cast -dsimp;refine aC hp3 (by simp) rfl ?_;intro w4 az;push_cast -dsimp;have k1:Kept F w w1:=aZ.kept.weaken (λi _ h=>by subst h;exact hFs);have k2:Kept F w w2:=k1.trans (Kept.new bw (X:=λ_=>False)) (λ_ _ h=>h.elim);have k3:Kept F w w3:=k2.trans hgk (λi _ h=>(hg i h).2.2);have k4:Kept F w w4:=k3.trans az.kept (λi _ h=>by subst h;exact hFp);have aJo:∀g,(Value.slice a3 (q++[k]).length c3).ownBlock=some g->g≠p/\g≠sb/\(F g\/w.heap.size<=g):=λg Ig=>by
   rcases hn3 g Ig with h|h
   ·exact⟨(hg g h).1,(hg g h).2.1,.inl (hg g h).2.2⟩
   have:=hp.lt;have:=hs.lt;exact⟨by omega,by omega,.inr (by omega)⟩
  have e:jS q k=q++[k]:=by unfold jS;rw[if_neg pk]
  refine⟨k4,_,sb,az.aN,?_,by rw[e];exact lW.kept az.kept (λh=>dD h.symm),dD,aJo,.inl hFp,.inl hFs,hP.add hk⟩;rw[e];exact oH.aI az.kept (λg Ig h=>(aJo g Ig).1 h)
 have pk:k∈q:=Classical.byContradiction pk;have e:jS q k=q:=by unfold jS;rw[if_pos pk]
 refine⟨Kept.refl _ _,?_⟩;rw[e];exact⟨lv,sb,hp,hl,hs,dD,λg h=>⟨(hg g h).1,(hg g h).2.1,.inl (hg g h).2.2⟩,.inl hFp,.inl hFs,hP⟩
theorem SF {n:Nat}{q:List Nat}{k:Nat}(hk:k<n):(gb n q).set k (.bool false)=gb n (q.filter (·≠k)):=by
 apply List.ext_getElem?;intro i;rw[List.getElem?_set];by_cases hi:i<n
 ·rw[oV hi,oV hi];split
  ·rename_i e;subst e;rw[if_pos (by simpa[gb] using hk)];simp
  rename_i e;congr 2;rw[decide_eq_decide];simp only[List.mem_filter,decide_eq_true_eq];constructor
  ·intro h;exact⟨h,λh=>e h.symm⟩
  exact λh=>h.1
 have h1:(gb n q)[i]?=none:=List.getElem?_eq_none (by simp[gb];omega);have h2:(gb n (q.filter (·≠k)))[i]?=none:=List.getElem?_eq_none (by simp[gb];omega);rw[h1,h2,if_neg (by omega)]
theorem Z4 (p n:Nat)(q:List Nat)(F:Nat->Prop)(hn:n<1000000)(w:World)(h:Th w p n q F) :
  bE Tryz.prog 54 [.pointer (some ⟨p,0,none⟩)] w λ_ w'=>Kept F w w'/\Th w' p n [] F:=by
 obtain⟨lv,sb,hp,hl,hs,dD,hg,hFp,hFs,hP⟩:=h;have c0:w.cell? ⟨p,0,none⟩=some lv:=hp.cell rfl;obtain⟨a,cp,rfl⟩:=hl.slice;have hql:=hP.len;have qS:=hl.sl;refine aE Tryz.func54 rfl (by kernel_rfl) [] rfl ?_;push_cast -dsimp(maxSteps:=4000000) [Tryz.ntmps54];push_cast -dsimp[c0];refine aL [3,9,10,11,12,13,14,15,16,17,18,19] (λz wx=>∃(i:Nat),z 9=.int .i64 i/\i<=q.length/\Kept (·=sb) w wx/\aM wx sb 4 (gb n (q.drop i))) (λz _=>q.length-(intOf (z 9)).toNat) ?_ ?_
 ·exact⟨0,rfl,Nat.zero_le _,Kept.refl _ _,hs⟩
 intro z wx hI;obtain⟨i,h9,hi,hk,hB⟩:=hI;have hpx:=hp.kept hk dD;have d1:wx.cell? ⟨p,1,none⟩=some (.slice (some ⟨sb,0,none⟩) n n):=hpx.cell rfl;have d0:wx.cell? ⟨p,0,none⟩=some (.slice a q.length cp):=hpx.cell rfl;have Ip:=hl.aI hk (λg vM h=>(hg g vM).2.1 h);push_cast -dsimp[h9];refine⟨λaw=>?_,λfT=>?_⟩
 ·obtain⟨x,hx,jQ,hd,ht⟩:=au (l:=q) (i:=i) (by omega);obtain⟨b,o,rfl,hX,aK⟩:=Ip.sl.get hx;have cx:wx.cell? ⟨b,o+i,none⟩=some (.int .i64 x):=by simpa using aK 0 _ rfl
  have hxn:=hP.2 x jQ;push_cast -dsimp[cx,d1];refine⟨⟨by omega,by omega⟩,⟨by omega,by omega⟩,?_⟩;refine aC hB (by simp[gb];exact hxn) rfl ?_;intro w1 aZ;rw[SF hxn]at aZ;push_cast -dsimp;refine⟨⟨by omega,by omega⟩,⟨i+1,rfl,by omega,hk.trans aZ.kept (λ_ _ h=>h),?_⟩,by rw[h9];simp only[intOf];omega⟩;have e:gb n ((q.drop i).filter (·≠x))=gb n (q.drop (i+1)):=by
   have hnd:(q.drop i).Nodup:=hP.1.sublist (List.drop_sublist _ _);rw[hd]at hnd ⊢
   rw[List.filter_cons_of_neg (by simp)];have:(q.drop (i+1)).filter (·≠x)=q.drop (i+1):=List.filter_eq_self.2 (λy hy=>by
    have:=(List.nodup_cons.1 hnd).1;simp only[decide_eq_true_eq];intro h;subst h;exact this hy)
   rw[this]
  rw[e]at aZ;exact aZ.aN
 rw[List.drop_eq_nil_of_le (by omega)]at hB;push_cast -dsimp[d0];have ni:∀a' c',Vc.Own 0 3 1 aY wx (.slice a' 0 c') []->(∀g,(Value.slice a' 0 c').ownBlock=some g->(Value.slice a q.length cp).ownBlock=some g)->∀w2,Yy wx w2 p 122 [.slice a' 0 c',.slice (some ⟨sb,0,none⟩) n n]->Kept F w w2/\Th w2 p n [] F:=λa' c' ho Ig w2 bw=>by
  refine⟨(hk.weaken (λi _ h=>by subst h;exact hFs)).trans bw.kept (λi _ h=>by subst h;exact hFp),_,sb,bw.aN,ho.aI bw.kept (λg h1 h2=>(hg g (Ig g h1)).1 h2),hB.kept bw.kept (λh=>dD h.symm),dD,λg h1=>hg g (Ig g h1),hFp,hFs,bh.nil n⟩
 rcases Ip.cut with ⟨rfl,hq0,rfl,rfl⟩|⟨g,rfl,_,hle,kT⟩
 ·push_cast -dsimp;refine aC hpx (by simp) rfl ?_;intro w2 bw;push_cast -dsimp;exact ni none 0 Ip (λg h=>h) w2 bw
 push_cast -dsimp;refine⟨by omega,aC hpx (by simp) rfl ?_⟩;intro w2 bw;push_cast -dsimp;exact ni _ cp (kT 0 (Nat.zero_le _)) (λg h=>h) w2 bw
def CH (D:Nat->Prop)(w:World)(pA pB n:Nat)(q nx:List Nat):Prop :=
 ∃FA FB,Th w pA n q FA/\Th w pB n nx FB/\(∀j,FA j->¬FB j)/\(∀j,FA j->D j/\j<w.heap.size)/\(∀j,FB j->D j/\j<w.heap.size)
theorem CH.swap {D:Nat->Prop}{w:World}{pA pB n:Nat}{q nx:List Nat}(h:CH D w pA pB n q nx):CH D w pB pA n nx q:=by
 obtain⟨FA,FB,h1,h2,h3,h4,h5⟩:=h;exact⟨FB,FA,h2,h1,λj hb ha=>h3 j ha hb,h5,h4⟩
theorem CH.kept {D X:Nat->Prop}{w w':World}{pA pB n:Nat}{q nx:List Nat}(h:CH D w pA pB n q nx)(hk:Kept X w w')(hX:∀j,D j->j<w.heap.size->¬X j):CH D w' pA pB n q nx:=by
 obtain⟨FA,FB,h1,h2,h3,h4,h5⟩:=h;have hs:=hk.size;exact⟨FA,FB,h1.kept hk (λj hj=>hX j (h4 j hj).1 (h4 j hj).2),h2.kept hk (λj hj=>hX j (h5 j hj).1 (h5 j hj).2),h3,λj hj=>⟨(h4 j hj).1,by have:=(h4 j hj).2;omega⟩,λj hj=>⟨(h5 j hj).1,by have:=(h5 j hj).2;omega⟩⟩
theorem CH.narrow {D D':Nat->Prop}{w:World}{pA pB n:Nat}{q nx:List Nat}(h:CH D w pA pB n q nx)(hD:∀j,D j->j<w.heap.size->D' j):CH D' w pA pB n q nx:=by
 obtain⟨FA,FB,h1,h2,h3,h4,h5⟩:=h;exact⟨FA,FB,h1,h2,h3,λj hj=>⟨hD j (h4 j hj).1 (h4 j hj).2,(h4 j hj).2⟩,λj hj=>⟨hD j (h5 j hj).1 (h5 j hj).2,(h5 j hj).2⟩⟩
theorem CH.places {D:Nat->Prop}{w:World}{pA pB n:Nat}{q nx:List Nat}(h:CH D w pA pB n q nx):bh n q/\bh n nx:=by
 obtain⟨FA,FB,⟨_,_,_,_,_,_,_,_,_,h1⟩,⟨_,_,_,_,_,_,_,_,_,h2⟩,_⟩:=h;exact⟨h1,h2⟩
theorem CH.read {D:Nat->Prop}{w:World}{pA pB n:Nat}{q nx:List Nat}(h:CH D w pA pB n q nx):∃a c,w.cell? ⟨pA,0,none⟩=some (.slice a q.length c)/\Sl (λ_=>False) 1 (En aY) w (.slice a q.length c) q:=by
 obtain⟨FA,FB,⟨lv,sb,hp,hl,_⟩,_⟩:=h;obtain⟨a,c,rfl⟩:=hl.slice;exact⟨a,c,hp.cell rfl,hl.sl.weaken (λ_ h=>h.elim)⟩
theorem oY {D:Nat->Prop}{w:World}{pA pB n:Nat}{q nx:List Nat}(h:CH D w pA pB n q nx){k:Nat}(hk:k<n)(hn:n<1000000) :
  bE Tryz.prog 52 [.pointer (some ⟨pA,0,none⟩),.int .i64 k] w λ_ w'=>CH (λj=>D j\/w.heap.size<=j) w' pA pB n (jS q k) nx/\Kept D w w':=by
 obtain⟨FA,FB,h1,h2,h3,h4,h5⟩:=h;refine(aDn pA n q FA k hk hn w h1).mono ?_;rintro _ w' ⟨CQ,hT⟩;have hs:=CQ.size;refine⟨⟨λj=>(FA j\/w.heap.size<=j)/\j<w'.heap.size,FB,?_,h2.kept CQ (λj hj hh=>h3 j hh hj),λj ⟨hj,_⟩ hb=>?_,λj ⟨hj,hl⟩=>⟨?_,hl⟩,λj hj=>⟨.inl (h5 j hj).1,by have:=(h5 j hj).2;omega⟩⟩,CQ.weaken (λi _ hi=>(h4 i hi).1)⟩
 ·obtain⟨lv,sb,g1,g2,g3,g4,g5,g6,g7,g8⟩:=hT;exact⟨lv,sb,g1,g2,g3,g4,λg hg=>⟨(g5 g hg).1,(g5 g hg).2.1,(g5 g hg).2.2,(g2.block g hg).2⟩,⟨g6,g1.lt⟩,⟨g7,g3.lt⟩,g8⟩
 ·rcases hj with hj|hj
  ·exact h3 j hj hb
  have:=(h5 j hb).2;omega
 rcases hj with hj|hj
 ·exact .inl (h4 j hj).1
 exact .inr hj
theorem Mv {D:Nat->Prop}{w:World}{pA pB n:Nat}{q nx:List Nat}(h:CH D w pA pB n q nx)(hn:n<1000000) :
  bE Tryz.prog 54 [.pointer (some ⟨pA,0,none⟩)] w λ_ w'=>CH D w' pA pB n [] nx/\Kept D w w':=by
 obtain⟨FA,FB,h1,h2,h3,h4,h5⟩:=h;refine(Z4 pA n q FA hn w h1).mono ?_;rintro _ w' ⟨CQ,hT⟩;have hs:=CQ.size;exact⟨⟨FA,FB,hT,h2.kept CQ (λj hj hh=>h3 j hh hj),h3,λj hj=>⟨(h4 j hj).1,by have:=(h4 j hj).2;omega⟩,λj hj=>⟨(h5 j hj).1,by have:=(h5 j hj).2;omega⟩⟩,CQ.weaken (λi _ hi=>(h4 i hi).1)⟩
theorem xe {P:Program}{bt e:TypeId}{bytes:Nat}{z:Value}{n:Nat}{t:Fr}{w:World}{K:VK}{Q:EP}{p}(hE:Ci P bt=some (e,1,bytes))(hz:(P.info? e).bind (·.zero)=some z)(hz1:kC z=true)(hb:bytes*n<=281474976710656)(hn:n<=140737488355328)
  (kk:∀w',ly w w' e (List.replicate n z)->K (.slice (some ⟨w.heap.size,0,none⟩) n n) w'):ak P (Instr.makeSlice bt (.int .i64 n) (.int .i64 n)) t w K Q p:=by
 obtain⟨hu,i,z',hi,hz',hk,rfl,Lu,_,_⟩:=mJ hE;rw[hi]at hz;simp only[Option.bind_some]at hz;rw[hz']at hz;cases hz
 have:=run_make (P:=P) w bt e i z hu hi hz' .i64 .i64 n n (by omega) (Int.le_refl _) (by rw[<-Int.natCast_mul];omega) (by omega);refine eu this ?_;simp only[Int.toNat_natCast];refine kk _ ⟨?_⟩;congr 2;have hzc:z.cells=#[z]:=by cases z<;>simp_all [kC,Value.cells]
 rw[hzc,hk];apply Array.ext';simp only[madeCells,Array.toList_map,Array.toList_range];apply List.ext_getElem?;intro j;simp only[List.getElem?_map,List.getElem?_replicate,Nat.mul_one];by_cases hj:j<n
 ·simp[hj,Nat.mod_one]
 simp[hj]
def sR (c:aD)(is:List Bool)(wt:List Nat):Prop:=(is[0]?=some true\/0∈wt)/\∀(i:Nat) (x:I3),is[i]?=some true->c.ins[i]?=some x->∀j,tZ c x i j->is[j]?=some true\/j∈wt
theorem sR.skip {c:aD}{is:List Bool}{r:List Nat}{k:Nat}(h:sR c is (r++[k]))(hk:is[k]?=some true):sR c is r:=by
 have hm:∀j,j∈r++[k]->is[j]?=some true\/j∈r:=λj hj=>by
  rw[List.mem_append,List.mem_singleton]at hj;rcases hj with hj|rfl
  ·exact .inr hj
  exact .inl hk
 exact⟨h.1.elim .inl (hm 0),λi x h1 h2 j hj=>(h.2 i x h1 h2 j hj).elim .inl (hm j)⟩
theorem sR.step {c:aD}{is:List Bool}{r ys:List Nat}{k:Nat}{x:I3}(h:sR c is (r++[k]))(hk:k<is.length)(hx:c.ins[k]?=some x)(hy:∀j,tZ c x k j->j∈ys):sR c (is.set k true) (r++ys):=by
 have sq:∀j:Nat,is[j]?=some true->(is.set k true)[j]?=some true:=λj hj=>by
  rw[List.getElem?_set];by_cases e:k=j
  ·rw[if_pos e,if_pos hk]
  rw[if_neg e];exact hj
 have hm:∀j,j∈r++[k]->(is.set k true)[j]?=some true\/j∈r++ys:=λj hj=>by
  rw[List.mem_append,List.mem_singleton]at hj;rcases hj with hj|rfl
  ·exact .inr (List.mem_append.2 (.inl hj))
  exact .inl (by rw[List.getElem?_set,if_pos rfl,if_pos hk])
 refine⟨h.1.elim (λh=>.inl (sq 0 h)) (hm 0),λi y h1 h2 j hj=>?_⟩;by_cases e:i=k
 ·subst e;rw[hx]at h2;cases h2;exact .inr (List.mem_append.2 (.inr (hy j hj)))
 rw[List.getElem?_set,if_neg (λh=>e h.symm)]at h1;exact(h.2 i y h1 h2 j hj).elim (λh=>.inl (sq j h)) (hm j)
theorem sR.done {c:aD}{is:List Bool}(h:sR c is [])(hl:is.length=c.ins.length):sO c is :=
 ⟨hl,h.1.elim id (λh=>by cases h),λi x h1 h2 j hj=>(h.2 i x h1 h2 j hj).elim id (λh=>by cases h)⟩
def x6 (is:List Bool):List Value:=is.map .bool
def cntF (w:World)(sb:Nat):Nat:=match w.heap[sb]? with
 | some (.cells cs _ _)=>(cs.toList.filter (λv=>match v with|.bool false=>true|_=>false)).length
 | _=>0
def JG:Value->Nat
 | .slice _ n _=>n
 | _=>0
theorem gL {w:World}{sb:Nat}{e:TypeId}{is:List Bool}(h:aM w sb e (x6 is)):cntF w sb=(is.filter (! ·)).length:=by
 unfold cntF;rw[show w.heap[sb]?=_ from h]
 simp only[x6];clear h;induction is with
 | nil=>rfl
 | cons b l ih =>
  cases b<;>simp[List.filter_cons]at ih ⊢<;>exact ih
theorem fm:∀(is:List Bool) (k:Nat),is[k]?=some false->((is.set k true).filter (! ·)).length+1=(is.filter (! ·)).length
 | [],k,h=>by simp at h
 | b::l,0,h=>by simp at h;subst h;simp
 | b::l,k+1,h=>by
  have:=fm l k (by simpa using h);cases b<;>simp[List.filter_cons]<;>omega
theorem Rr (c:aD)(hc:CR c)(v:Value)(w:World)(hv:cW (λ_=>False) w v c) :
  bE Tryz.prog 138 [v] w λr w'=>(∃is sb,r=.slice (some ⟨sb,0,none⟩) c.ins.length c.ins.length/\aM w' sb 4 (x6 is)/\sO c is/\w.heap.size<=sb)/\Below w.heap.size w w':=by
 have hm:=hc.many;have so:=hc.one;have Iz:=hv;obtain⟨sv,iv,rfl,vP,vk⟩:=hv;obtain⟨a,cp,rfl,N3⟩:=vk.shape;have GF:=vP.shape;obtain⟨sa,sc,rfl,vz⟩:=GF;refine aE Tryz.func138 rfl (by kernel_rfl) [2] rfl ?_;push_cast -dsimp(maxSteps:=4000000) [Tryz.ntmps138];refine aR ?_;intro w1 aZ;have aZ:ly w w1 70 [.slice sa c.sets.length sc,.slice a c.ins.length cp]:=aZ;have sM:=aZ.size;have c0:w1.cell? ⟨w.heap.size,1,none⟩=some (.slice a c.ins.length cp):=aZ.cell rfl;push_cast -dsimp[c0];refine xe (z:=.bool false) sW (by kernel_rfl) rfl (by omega) (by omega) ?_;intro w2 bw;have HQ:=bw.size;push_cast -dsimp;refine cT bA rfl rfl (by omega) ?_;intro w3 dZ;have TJ:=dZ.size;have oH:=dZ.own (base:=w2.heap.size) (k:=1) (n:=1) (enc:=aY) (l:=[0]) rfl rfl (λ_=>rfl) (Nat.le_refl _) (by omega);have Ps:aM w3 w1.heap.size 4 (x6 (List.replicate c.ins.length false)):=by
  have:=bw.aN.below dZ.below (by omega);unfold x6;rw[List.map_replicate];exact this
 have hC3:aM w3 w.heap.size 70 [.slice sa c.sets.length sc,.slice a c.ins.length cp]:=(aZ.aN.below bw.below (by omega)).below dZ.below (by omega);have fL:Below w.heap.size w w3:=aZ.below.trans ((bw.below.mono (by omega)).trans (dZ.below.mono (by omega)));push_cast -dsimp;refine aL [4,5,6,12,13,14,15,16,17,18,19,20,21,22,23,24,25,26,27,28,29,30,31,32,33,34,35,36,37,38,39,40,41,42,43,44,45,46,47,48,49,50,51,52,53,54,55,56,57,58,59,60,61,62,63,64,65,66,67,68,69,70,71,72,73,74,75,76,77] (λz wx=>∃(is:List Bool) (wt:List Nat) (wv:Value),z 4=wv/\Vc.Own w2.heap.size 3 1 aY wx wv wt/\aM wx w1.heap.size 4 (x6 is)/\is.length=c.ins.length/\(∀k∈wt,k<c.ins.length)/\sR c is wt/\wt.length+2*(is.filter (! ·)).length<=2*c.ins.length+1 /\
   aM wx w.heap.size 70 [.slice sa c.sets.length sc,.slice a c.ins.length cp]/\Below w.heap.size w wx) (λz wx=>3*cntF wx w1.heap.size+JG (z 4)) ?_ ?_
 ·refine⟨List.replicate c.ins.length false,[0],_,rfl,oH,Ps,by simp,by simp;omega,⟨.inr (by simp),λi x h=>?_⟩,by simp;omega,hC3,fL⟩;rw[List.getElem?_replicate]at h;split at h<;>simp at h
 intro z wx hI;obtain⟨is,wt,wv,h4,kB,nu,Ij,hwt,xS,hwl,Zs,bT⟩:=hI;have qS:=kB.slice;obtain⟨wa,wc,rfl⟩:=qS;have EZ:=bT.size;have hBl:=nu.lt;rcases List.eq_nil_or_concat wt with rfl|⟨r,k,aJO⟩
 ·push_cast -dsimp[h4];exact⟨⟨is,_,rfl,nu,xS.done Ij,by omega⟩,bT⟩
 rw[List.concat_eq_append]at aJO;subst aJO;have hkl:=hwt k (by simp);have kT:=kB.cut;rcases kT with ⟨_,h0,_⟩|⟨g,rfl,_,hle,kT⟩
 ·simp at h0
 have Vq:=kT r.length (by simp);rw[List.take_left]at Vq;have yl:=kB.block g rfl;have Qd:r.length<=2*c.ins.length:=by rw[List.length_append,List.length_singleton]at hwl;omega
 rw[List.length_append,List.length_singleton]at hle;have h4':z 4=.slice (some ⟨g,0,none⟩) (r.length+1) wc:=by rw[h4,List.length_append];rfl
 have hgk:=kB.sl.get (i:=r.length) (x:=k) (by rw[List.getElem?_append_right (Nat.le_refl _),Nat.sub_self];rfl);obtain⟨b,o,e,_,aK⟩:=hgk;cases e;have cw:wx.cell? ⟨g,r.length,none⟩=some (.int .i64 k):=by simpa using aK 0 _ rfl
 have hgi:=au (l:=is) (i:=k) (by omega);obtain⟨bk,QL,_⟩:=hgi;have ck:wx.cell? ⟨w1.heap.size,k,none⟩=some (.bool bk):=nu.cell (by unfold x6;rw[List.getElem?_map,QL];rfl);have hgx:=au (l:=c.ins) (i:=k) hkl;obtain⟨x,hx,_⟩:=hgx;have hC1:wx.cell? ⟨w.heap.size,1,none⟩=some (.slice a c.ins.length cp):=Zs.cell rfl;have aNh:=(vk.below bT).get hx;obtain⟨ib,io,rfl,_,hic⟩:=aNh;have ci:aB wx ⟨ib,io+k*3,none⟩ 0 3=some (bV x):=ax (bV x) 0 (λj u hu=>by simpa using hic j u hu);unfold bV at ci;cases bk with
 | true =>
  push_cast -dsimp[h4',Int.add_sub_cancel,cw,ck,hC1];refine⟨λ_=>⟨⟨by omega,by omega⟩,⟨by omega,by omega⟩,⟨by omega,by omega⟩,⟨by omega,by omega⟩,?_⟩,λh=>absurd h (by omega)⟩;exact⟨⟨by omega,by omega⟩,⟨is,r,_,rfl,Vq,nu,Ij,λj hj=>hwt j (by simp[hj]),xS.skip QL,by rw[List.length_append]at hwl;omega,Zs,bT⟩,by simp only[JG];omega⟩
 | false =>
  push_cast -dsimp[h4',Int.add_sub_cancel,cw,ck,hC1];refine⟨λ_=>⟨⟨by omega,by omega⟩,⟨by omega,by omega⟩,⟨by omega,by omega⟩,⟨by omega,by omega⟩,?_⟩,λh=>absurd h (by omega)⟩;have lC:=QL;refine⟨⟨by omega,by omega⟩,⟨by omega,by omega⟩,?_⟩;refine aC nu (by unfold x6;rw[List.length_map];omega) rfl ?_;intro w4 az;have Fe:aM w4 w1.heap.size 4 (x6 (is.set k true)):=by
   have:=az.aN;unfold x6 at this ⊢
   rw[List.map_set];exact this
  have Yu:=az.size;have hC4:=Zs.kept az.kept (by omega);have qQ:=Vq.aI az.kept (λg' vM h=>by have:g=g':=(by simpa[Value.ownBlock] using vM);omega);have kj:Below w.heap.size w w4:=bT.trans (az.kept.below (by omega) (λ_ h=>by omega));have ci4:aB w4 ⟨ib,io+k*3,none⟩ 0 3=some [.int .i64 x.op,.int .i64 x.a,.int .i64 x.b]:=by
   have hg2:=((vk.below kj)).get hx;obtain⟨ib',io',e',_,aNl⟩:=hg2;cases e';exact ax (bV x) 0 (λj u hu=>by simpa using aNl j u hu)
  have aLT:w4.cell? ⟨w.heap.size,1,none⟩=some (.slice (some ⟨ib,io,none⟩) c.ins.length cp):=hC4.cell rfl;push_cast -dsimp[aLT,ci4];refine⟨⟨by omega,by omega⟩,?_⟩;refine ag (z:=[.int .i64 0,.int .i64 0,.int .i64 0]) (by kernel_rfl) ?_;intro w5 cO;have SX:=cO.size;push_cast -dsimp;refine aJ (n:=3) (by kernel_rfl) cO.aN rfl (by simp) (by simp[Value.oneCell']) ?_;intro w6 bZ;have Mm:=bZ.size;have CM:aM w6 w4.heap.size 109 [.int .i64 x.op,.int .i64 x.a,.int .i64 x.b]:=bZ.aN;have k6:Kept (λj=>j=w4.heap.size) w4 w6:=(Kept.new cO).trans bZ.kept (λ_ _ h=>h);have vv:=qQ.aI k6 (λg' vM h=>by have:=qQ.block g' vM;omega);have yI:=Fe.kept k6 (by omega);have VQ:=hC4.kept k6 (by omega);have lp:Below w.heap.size w w6:=kj.trans (k6.below (by omega) (λ_ h=>by omega));have t0:w6.cell? ⟨w4.heap.size,0,none⟩=some (.int .i64 x.op):=CM.cell rfl;have t1:w6.cell? ⟨w4.heap.size,1,none⟩=some (.int .i64 x.a):=CM.cell rfl;have t2:w6.cell? ⟨w4.heap.size,2,none⟩=some (.int .i64 x.b):=CM.cell rfl;have s0:w6.cell? ⟨w.heap.size,0,none⟩=some (.slice sa c.sets.length sc):=VQ.cell rfl;push_cast -dsimp[t0,t1,t2,s0];have aCJ:=dL (hc.ins k x hx);rcases aCJ with ⟨e,g1,g2,g3⟩|⟨e,g1,g2,g3,g4⟩|⟨e,g1,g2,g3⟩|⟨e|e,g1,g2⟩
  ·have jD:=hc.next k x hx (.inl e);have Fh:x.a=((x.a.toNat:Nat):Int):=by rw[Int.toNat_of_nonneg g1]
   have hgs:=au (l:=c.sets) (i:=x.a.toNat) (by omega);obtain⟨ss,hss,_⟩:=hgs;have hgs:=Sl.AQ (dy.below vP lp) hss;obtain⟨qb,qo,qcs,rfl,_,hqk,hqc,u,rfl,hu⟩:=hgs;have eW:=hu.shape;obtain⟨ua,uc,rfl,_⟩:=eW;have cq:w6.cell? ⟨qb,qo+x.a.toNat,none⟩=some (.slice ua ss.length uc):=by simpa using hqc 0 _ rfl
   have hsd:c.sets.getD x.a.toNat []=ss:=by rw[List.getD_eq_getElem?_getD,hss];rfl
   have ge:decide (x.op=1)=true:=decide_eq_true e;refine⟨λ_=>⟨⟨by omega,by omega⟩,?_⟩,λh=>absurd e h⟩;push_cast -dsimp[cq];refine⟨λpC=>?_,λhzero=>?_⟩
   ·refine⟨⟨by omega,by omega⟩,?_⟩;have hy:∀j,tZ c x k j->j∈[k+1]:=λj hj=>by
     rcases hj with ⟨e',_⟩|⟨e',_⟩|⟨e',rfl⟩|⟨e',_,rfl⟩<;>first|(exfalso;omega)|simp
    refine cT bA rfl rfl (by omega) ?_;intro w7 fh;have Mn:=fh.size;push_cast -dsimp;refine aS (base:=w2.heap.size) [k+1] (enc:=aY) bA (vv.new fh) (by rfl) (λj u hu=>by simpa[aY] using fh.cell hu) (by simp[aY,Value.oneCell']) (by simp only[List.length_cons,List.length_nil];omega) (by omega) ?_;intro v9 w9 A5 hg9 hn9;have WB:Kept (λj=>j=g) w7 w9:=Kept.grown hg9 (λj h=>by have:g=j:=(by simpa[Value.ownBlock] using h);omega);have k9:Kept (λj=>j=g) w6 w9:=(Kept.new fh).trans WB (λ_ _ h=>h);have CI:=yI.kept k9 (by omega);have VR:=VQ.kept k9 (by omega);have qI:Below w.heap.size w w9:=lp.trans (k9.below (by omega) (λ_ h=>by omega));have Ll:=A5.slice;obtain⟨a9,c9,rfl⟩:=Ll;push_cast -dsimp;have jE:sR c (is.set k true) (r++[k+1]):=xS.step (by omega) hx hy;refine⟨⟨is.set k true,r++[k+1],_,rfl,A5,CI,by rw[List.length_set];exact Ij,?_,jE,?_,VR,qI⟩,?_⟩
    ·intro j hj;rw[List.mem_append]at hj;rcases hj with hj|hj
     ·exact hwt j (List.mem_append.2 (.inl hj))
     simp at hj
     all_goals omega
    ·have:=fm is k lC;simp only[List.length_append,List.length_cons,List.length_nil]at hwl ⊢
     omega
    rw[gL CI,gL nu,h4]
    have:=fm is k lC;simp only[JG,List.length_append,List.length_cons,List.length_nil];omega
   have hs0:ss=[]:=List.eq_nil_of_length_eq_zero (by omega);have hy:∀j,tZ c x k j->j∈([]:List Nat):=λj hj=>by
    rcases hj with ⟨e',_⟩|⟨e',_⟩|⟨e',rfl⟩|⟨e',hh,rfl⟩<;>first|(exfalso;omega)|exact absurd (hsd.trans hs0) hh
   have A5:Vc.Own w2.heap.size 3 1 aY w6 (.slice (some ⟨g,0,none⟩) r.length wc) (r++[]):=by rw[List.append_nil];exact vv
   have CI:=yI;have VR:=VQ;have qI:=lp;have jE:sR c (is.set k true) (r++[]):=xS.step (by omega) hx hy;refine⟨⟨is.set k true,r++[],_,rfl,A5,CI,by rw[List.length_set];exact Ij,?_,jE,?_,VR,qI⟩,?_⟩
   ·intro j hj;rw[List.mem_append]at hj;rcases hj with hj|hj
    ·exact hwt j (List.mem_append.2 (.inl hj))
    simp at hj
    all_goals omega
   ·have:=fm is k lC;simp only[List.length_append,List.length_cons,List.length_nil]at hwl ⊢
    omega
   rw[gL CI,gL nu,h4]
   have:=fm is k lC;simp only[JG,List.length_append,List.length_cons,List.length_nil];omega
  ·have Fh:x.a=((x.a.toNat:Nat):Int):=by rw[Int.toNat_of_nonneg g1]
   have QK:x.b=((x.b.toNat:Nat):Int):=by rw[Int.toNat_of_nonneg g3]
   refine⟨λh=>absurd h (by omega),λ_=>⟨λh=>absurd h (by omega),λ_=>⟨λh=>absurd h (by omega),λ_=>⟨λ_=>?_,λh=>absurd e h⟩⟩⟩⟩;have hy:∀j,tZ c x k j->j∈[x.a.toNat,x.b.toNat]:=λj hj=>by
    rcases hj with ⟨e',rfl|rfl⟩|⟨e',_⟩|⟨e',rfl⟩|⟨e',hh,rfl⟩<;>first|(exfalso;omega)|simp
   rw[Fh,QK];refine cT bA rfl rfl (by omega) ?_;intro w7 fh;have Mn:=fh.size;push_cast -dsimp;refine aS (base:=w2.heap.size) [x.a.toNat,x.b.toNat] (enc:=aY) bA (vv.new fh) (by rfl) (λj u hu=>by simpa[aY] using fh.cell hu) (by simp[aY,Value.oneCell']) (by simp only[List.length_cons,List.length_nil];omega) (by omega) ?_;intro v9 w9 A5 hg9 hn9;have WB:Kept (λj=>j=g) w7 w9:=Kept.grown hg9 (λj h=>by have:g=j:=(by simpa[Value.ownBlock] using h);omega);have k9:Kept (λj=>j=g) w6 w9:=(Kept.new fh).trans WB (λ_ _ h=>h);have CI:=yI.kept k9 (by omega);have VR:=VQ.kept k9 (by omega);have qI:Below w.heap.size w w9:=lp.trans (k9.below (by omega) (λ_ h=>by omega));have Ll:=A5.slice;obtain⟨a9,c9,rfl⟩:=Ll;push_cast -dsimp;have jE:sR c (is.set k true) (r++[x.a.toNat,x.b.toNat]):=xS.step (by omega) hx hy;refine⟨⟨is.set k true,r++[x.a.toNat,x.b.toNat],_,rfl,A5,CI,by rw[List.length_set];exact Ij,?_,jE,?_,VR,qI⟩,?_⟩
   ·intro j hj;rw[List.mem_append]at hj;rcases hj with hj|hj
    ·exact hwt j (List.mem_append.2 (.inl hj))
    simp at hj
    all_goals omega
   ·have:=fm is k lC;simp only[List.length_append,List.length_cons,List.length_nil]at hwl ⊢
    omega
   rw[gL CI,gL nu,h4]
   have:=fm is k lC;simp only[JG,List.length_append,List.length_cons,List.length_nil];omega
  ·have Fh:x.a=((x.a.toNat:Nat):Int):=by rw[Int.toNat_of_nonneg g1]
   refine⟨λh=>absurd h (by omega),λ_=>⟨λh=>absurd h (by omega),λ_=>⟨λ_=>?_,λh=>absurd e h⟩⟩⟩;have hy:∀j,tZ c x k j->j∈[x.a.toNat]:=λj hj=>by
    rcases hj with ⟨e',_⟩|⟨e',rfl⟩|⟨e',rfl⟩|⟨e',hh,rfl⟩<;>first|(exfalso;omega)|simp
   rw[Fh];refine cT bA rfl rfl (by omega) ?_;intro w7 fh;have Mn:=fh.size;push_cast -dsimp;refine aS (base:=w2.heap.size) [x.a.toNat] (enc:=aY) bA (vv.new fh) (by rfl) (λj u hu=>by simpa[aY] using fh.cell hu) (by simp[aY,Value.oneCell']) (by simp only[List.length_cons,List.length_nil];omega) (by omega) ?_;intro v9 w9 A5 hg9 hn9;have WB:Kept (λj=>j=g) w7 w9:=Kept.grown hg9 (λj h=>by have:g=j:=(by simpa[Value.ownBlock] using h);omega);have k9:Kept (λj=>j=g) w6 w9:=(Kept.new fh).trans WB (λ_ _ h=>h);have CI:=yI.kept k9 (by omega);have VR:=VQ.kept k9 (by omega);have qI:Below w.heap.size w w9:=lp.trans (k9.below (by omega) (λ_ h=>by omega));have Ll:=A5.slice;obtain⟨a9,c9,rfl⟩:=Ll;push_cast -dsimp;have jE:sR c (is.set k true) (r++[x.a.toNat]):=xS.step (by omega) hx hy;refine⟨⟨is.set k true,r++[x.a.toNat],_,rfl,A5,CI,by rw[List.length_set];exact Ij,?_,jE,?_,VR,qI⟩,?_⟩
   ·intro j hj;rw[List.mem_append]at hj;rcases hj with hj|hj
    ·exact hwt j (List.mem_append.2 (.inl hj))
    simp at hj
    all_goals omega
   ·have:=fm is k lC;simp only[List.length_append,List.length_cons,List.length_nil]at hwl ⊢
    omega
   rw[gL CI,gL nu,h4]
   have:=fm is k lC;simp only[JG,List.length_append,List.length_cons,List.length_nil];omega
  ·have jD:=hc.next k x hx (.inr e);refine⟨λh=>absurd h (by omega),λ_=>⟨λ_=>⟨⟨by omega,by omega⟩,?_⟩,λh=>absurd e h⟩⟩;have hy:∀j,tZ c x k j->j∈[k+1]:=λj hj=>by
    rcases hj with ⟨e',_⟩|⟨e',_⟩|⟨e',rfl⟩|⟨e',_,rfl⟩<;>first|(exfalso;omega)|simp
   refine cT bA rfl rfl (by omega) ?_;intro w7 fh;have Mn:=fh.size;push_cast -dsimp;refine aS (base:=w2.heap.size) [k+1] (enc:=aY) bA (vv.new fh) (by rfl) (λj u hu=>by simpa[aY] using fh.cell hu) (by simp[aY,Value.oneCell']) (by simp only[List.length_cons,List.length_nil];omega) (by omega) ?_;intro v9 w9 A5 hg9 hn9;have WB:Kept (λj=>j=g) w7 w9:=Kept.grown hg9 (λj h=>by have:g=j:=(by simpa[Value.ownBlock] using h);omega);have k9:Kept (λj=>j=g) w6 w9:=(Kept.new fh).trans WB (λ_ _ h=>h);have CI:=yI.kept k9 (by omega);have VR:=VQ.kept k9 (by omega);have qI:Below w.heap.size w w9:=lp.trans (k9.below (by omega) (λ_ h=>by omega));have Ll:=A5.slice;obtain⟨a9,c9,rfl⟩:=Ll;push_cast -dsimp;have jE:sR c (is.set k true) (r++[k+1]):=xS.step (by omega) hx hy;refine⟨⟨is.set k true,r++[k+1],_,rfl,A5,CI,by rw[List.length_set];exact Ij,?_,jE,?_,VR,qI⟩,?_⟩
   ·intro j hj;rw[List.mem_append]at hj;rcases hj with hj|hj
    ·exact hwt j (List.mem_append.2 (.inl hj))
    simp at hj
    all_goals omega
   ·have:=fm is k lC;simp only[List.length_append,List.length_cons,List.length_nil]at hwl ⊢
    omega
   rw[gL CI,gL nu,h4]
   have:=fm is k lC;simp only[JG,List.length_append,List.length_cons,List.length_nil];omega
  refine⟨λh=>absurd h (by omega),λ_=>⟨λh=>absurd h (by omega),λ_=>⟨λh=>absurd h (by omega),λ_=>⟨λh=>absurd h (by omega),λ_=>?_⟩⟩⟩⟩;have hy:∀j,tZ c x k j->j∈([]:List Nat):=λj hj=>by
   rcases hj with ⟨e',_⟩|⟨e',_⟩|⟨e',rfl⟩|⟨e',hh,rfl⟩<;>(exfalso;omega)
  have A5:Vc.Own w2.heap.size 3 1 aY w6 (.slice (some ⟨g,0,none⟩) r.length wc) (r++[]):=by rw[List.append_nil];exact vv
  have CI:=yI;have VR:=VQ;have qI:=lp;have jE:sR c (is.set k true) (r++[]):=xS.step (by omega) hx hy;refine⟨⟨is.set k true,r++[],_,rfl,A5,CI,by rw[List.length_set];exact Ij,?_,jE,?_,VR,qI⟩,?_⟩
  ·intro j hj;rw[List.mem_append]at hj;rcases hj with hj|hj
   ·exact hwt j (List.mem_append.2 (.inl hj))
   simp at hj
   all_goals omega
  ·have:=fm is k lC;simp only[List.length_append,List.length_cons,List.length_nil]at hwl ⊢
   omega
  rw[gL CI,gL nu,h4]
  have:=fm is k lC;simp only[JG,List.length_append,List.length_cons,List.length_nil];omega
end Go.Proofs.YtledlfbbebodgaaGreatDoor
end
section
namespace Go.Proofs.YtledlfbbebodgaaGreatDoor
open Go.Vc Go.Proofs Go.RowKit Cae
end Go.Proofs.YtledlfbbebodgaaGreatDoor
end
