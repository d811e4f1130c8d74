/- For every input 'MeanBreaks' returns true, and its arguments read afterwards as they read before. No condition but the row's own: the variables that it lists are as the program lays them (the table of trailing zeros, the two errors of package strconv, the type error's handle, the tables of white space and the fault that is none are read); the library's bound MaxLen holds whatever number it holds. -/
import Derived.Test.YtodeeahdhnjpkaaGreatDoorM16
import Derived.Test.YtodeeahdhnjpkaaGreatDoorCards
set_option maxRecDepth 100000
set_option linter.unusedSimpArgs false
set_option linter.unusedVariables false
set_option maxHeartbeats 8000000
section
namespace Go.Proofs.YtodeeahdhnjpkaaGreatDoor
open Go.ChangeShapes Go.WideShapes Go.ChangeAt Go.RowKit Go.Vc Cae
def laidB:List (String×DataW Unit):=[("math/bits.deBruijn32tab",Rows.laid_math_bits_deBruijn32tab),("math/bits.deBruijn64tab",Rows.laid_math_bits_deBruijn64tab),("internal/strconv.uint64pow10",Rows.laid_internal_strconv_uint64pow10),("unicode/utf8.acceptRanges",Rows.laid_unicode_utf8_acceptRanges),("errors.errorType",Rows.laid_errors_errorType),("caesura/utf.least",Rows.laid_caesura_utf_least),("strconv.ErrRange",Rows.laid_strconv_ErrRange),("strconv.ErrSyntax",Rows.laid_strconv_ErrSyntax),("unicode.White_Space",Rows.laid_unicode_White_Space),("strings.asciiSpace",Rows.laid_strings_asciiSpace),("caesura/caesuraref.Fine",Rows.laid_caesura_caesuraref_Fine),("unicode/utf8.first",Rows.laid_unicode_utf8_first)]
noncomputable def wit (os:Os):World :=
 { World.doorLaid Tryz.prog 105 os with heap:=(World.doorLaid Tryz.prog 105 os).heap.modify 8 λo=>match o with
  | .cells _ t x=>.cells (Go.Pinned.utf8FirstZ.map λ(n:Nat)=>Value.int .u8 (n:Int)).toArray t x
  | o=>o }
theorem T9 {W:World}{l:List (String×DataW Unit)}(hl:(l.filter λx=>x.1 == "caesura/utf.least")=[("caesura/utf.least",Rows.laid_caesura_utf_least)])(h:laidMetH Tryz.prog l W):wU W:=by
 have h:=h.filter (λx=>x.1 == "caesura/utf.least");rw[hl,MakeChecks.laidMetH_plain _ _ _ (by kernel_rfl)]at h;obtain⟨ps,⟨g,t,cs,fuel,p,q,hg,ht,hv,hd,_,_⟩,_,_⟩:=h;obtain rfl:=Option.some.inj ((show Tryz.prog.globalNamed "caesura/utf.least"=some 1 by kernel_rfl).symm.trans hg)
 obtain rfl:=Option.some.inj ((show (Tryz.prog.globals[1]?).map (·.type)=some 139 by kernel_rfl).symm.trans ht)
 have c5:Tryz.prog.cellsOf 3=1:=by kernel_rfl
 have c29:Tryz.prog.cellsOf 139=5:=by kernel_rfl
 obtain⟨xs,m,_,ex,hlen,hl,AF⟩:=DataW.trod_array Tryz.underlying139 hd;rw[c29]at hlen;have key:cs=#[.int .i64 0,.int .i64 0,.int .i64 128,.int .i64 2048,.int .i64 65536]:=by
  obtain⟨l⟩:=cs;match l,hlen with
  | [a,b,c,d,e],_ =>
   match xs,hl with
   | [x0,x1,x2,x3,x4],_ =>
    have e3:=(DataW.agg.inj (Prod.mk.inj ex).1);simp only[List.map_cons,List.map_nil,List.cons.injEq,and_true]at e3;have k0:=AF 0 (by omega);have k1:=AF 1 (by omega);have k2:=AF 2 (by omega);have k3:=AF 3 (by omega);have k4:=AF 4 (by omega);rw[c5]at k0 k1 k2 k3 k4;obtain⟨z0,a0,b0,_⟩:=DataW.trod_int Tryz.underlying3 k0;obtain⟨z1,a1,b1,_⟩:=DataW.trod_int Tryz.underlying3 k1;obtain⟨z2,a2,b2,_⟩:=DataW.trod_int Tryz.underlying3 k2;obtain⟨z3,a3,b3,_⟩:=DataW.trod_int Tryz.underlying3 k3;obtain⟨z4,a4,b4,_⟩:=DataW.trod_int Tryz.underlying3 k4;simp_all;omega
 subst key;intro k hk;rw[World.var?_cell hg hv k];have:k=0\/k=1\/k=2\/k=3\/k=4:=by omega
 rcases this with e|e|e|e|e<;>subst e<;>rfl
theorem lifted (os:Os)(started:os.Started)(H:Type)(enc:TypeId×Value->H) :
  ReturnsInHanded {} Tryz.checked os 4 .any (λw args=>(Rows.meanBreaksSpec.pre enc Tryz.prog Tryz.f4 [] false w args/\laidMetH Tryz.prog laidB w)/\sizedMet enc Tryz.prog Tryz.f4 (OpenSpec.ofChange Rows.meanBreaksSpec) false w args)
   (Rows.meanBreaksSpec.post enc Tryz.prog Tryz.f4 false true false false):=by
 refine Iz (C:=Tryz.checked) (X:=λw _=>laidMetH Tryz.prog laidB w) (λ_ _ _ hh h=>h.of_heap hh) own started (by kernel_rfl) Tryz.func4
  (ChangeSpec.witness_shaped (enc:=enc) (C:=Tryz.checked) (os:=os) (X:=λw _=>laidMetH Tryz.prog laidB w) false (wit os) #[.string ⟨#[]⟩,.string ⟨#[]⟩,.int .i64 0] 8 rfl
   (World.shaped_of_ZipB (by kernel_rfl) (by kernel_rfl)) (by kernel_rfl) (by kernel_rfl) (by kernel_rfl)
   (laidMetH_of_parts (G1 8 256 (by kernel_rfl)) (by kernel_rfl))) ?_
 intro W base args ds gs before aGW hW _ hL eM;have qw:∀(j:Nat) t v,Tryz.f4.params[j]?=some t->args[j]?=some v->Value.okWide Tryz.prog W .any base t v:=aGW;have bZ:=hW.lt;have hW':=hW;obtain⟨p,q,hA0,hV,rfl,_,_⟩:=hW;have hA:DataW.TrodAll enc Tryz.prog W 0 (λ_=>true) true Tryz.f4.params.toList args.toList ds p:=hA0;rw[Tryz.params4]at hA qw;obtain⟨v0,v1,v2,d0,d1,d2,p0,p1,p2,rfl,rfl,rfl,h0,h1,h2⟩:=trodAll_three hA;obtain⟨rfl,rfl⟩:=trodVars_none hV;obtain⟨s0,rfl⟩:=okWide_string Tryz.underlying9 (qw 0 9 v0 rfl rfl);obtain⟨s1,rfl⟩:=okWide_string Tryz.underlying9 (qw 1 9 v1 rfl rfl);obtain⟨b2,rfl⟩:=okWide_int Tryz.underlying3 (qw 2 3 v2 rfl rfl);simp only[List.append_nil]at hW' bZ;have aGZ:=DQ s0.data.toList s1.data.toList b2 W (aFo (by kernel_rfl) (by kernel_rfl) (by kernel_rfl) (by kernel_rfl) (by kernel_rfl) (by kernel_rfl) hL eM) (T9 (by kernel_rfl) hL) (Ml (by kernel_rfl) hL) (aHh eM);refine aGZ.2.mono λe W' ⟨v,he,hv,hb⟩=>?_;subst he;subst hv;have st:∀{t v d ps} (hl:Tryz.prog.readableRec t=true) (NS:t<Tryz.prog.types.size) (h:DataW.Trod enc Tryz.prog W 0 (λ_=>true) true t v d ps) (bZ:∀x∈ps,x.block<W.heap.size),DataW.Trod enc Tryz.prog W' 0 (λb=>decide (b<W.heap.size)) true t v d ps :=
  λhl NS h bZ=>Below.trod laidOut hl NS h hb bZ
 exact⟨_,rfl,_,_,_,[],p0++(p1++p2),[],hW',trodAll_mk1 (shut_bool Tryz.underlying4 _),trodAll_mk3 (st (by kernel_rfl) (of_decide_eq_true (by kernel_rfl)) h0 (λx hx=>bZ x (by simp[hx]))) (st (by kernel_rfl) (of_decide_eq_true (by kernel_rfl)) h1 (λx hx=>bZ x (by simp[hx]))) (st (by kernel_rfl) (of_decide_eq_true (by kernel_rfl)) h2 (λx hx=>bZ x (by simp[hx]))),rfl,hb.frame _,λh=>by cases h⟩
theorem uW:Rows.MeanBreaksSaid :=
 OpenClaim.holds_of_wide 4 Tryz.f4 rfl rfl rfl rfl rfl rfl rfl ⟨rfl,rfl,rfl,rfl,rfl⟩ rfl rfl rfl rfl rfl (by kernel_rfl) Tryz.func4 (by kernel_rfl)
  (of_decide_eq_true (by kernel_rfl)) (by unfold Func.isWrapper;first|(rw[if_pos (by decide +kernel)];kernel_rfl)|(rw[if_neg (by decide +kernel)];exact⟨rfl,rfl⟩))
  (λos started H enc _=>lifted os started H enc)
theorem meanBreaks_card:Rows.MeanBreaksCardSaid :=
 Claim7.holds_tied_plain_at .later [] [.data,.data,.data,.data,.handle,.data,.sentinel,.sentinel,.listed,.data,.data,.pinned] true (true, "ea81679a29f0ed5737c7199abede72ee5f8ded5e1fde9f075451e5a5bdd24617") true uW (λ_ h=>by cases h) (by kernel_rfl) (λ_ h=>by cases h) meanBreaks_row_tie rfl ⟨rfl,rfl⟩ (by kernel_rfl) rfl
  (λf fn hf hfn=>by
   obtain rfl:f=4:=Option.some.inj ((show Tryz.prog.funcNamed "caesura/caesuralaw.MeanBreaks"=some 4 by kernel_rfl).symm.trans hf) |>.symm
   obtain rfl:fn=Tryz.f4:=(Option.some.inj (Tryz.func4.symm.trans hfn)).symm;exact⟨by kernel_rfl,λj t ht=>by
    rw[Tryz.params4]at ht;have hm:t∈[9,3]:=by simpa using Array.mem_of_getElem? ht
    have cg:([9,3].all λu=>!Tryz.prog.wantsStandIn u)=true:=by kernel_rfl
    exact(show Tryz.prog.wantsStandIn t=false by simpa using List.all_eq_true.1 cg t hm)⟩)
  (by kernel_rfl)
#print axioms meanBreaks_card
end Go.Proofs.YtodeeahdhnjpkaaGreatDoor
end
