/- For every input 'EngineSame' returns true, and its arguments read afterwards as they read before. No condition but the row's own: the variables that it lists are as the program lays them (the table of trailing zeros, the least code points, the code that is never and the two errors of package strconv are read). -/
import Derived.Test.YtemjejfpadnljaaGreatDoorM16
import Derived.Test.YtemjejfpadnljaaGreatDoorCards
set_option maxRecDepth 100000
set_option linter.unusedSimpArgs false
set_option linter.unusedVariables false
set_option maxHeartbeats 8000000
namespace Go.Proofs.YtemjejfpadnljaaGreatDoor
open Go.ChangeShapes Go.WideShapes Go.ChangeAt Go.RowKit Go.Vc Cae
theorem lifted (os:Os)(started:os.Started)(H:Type)(enc:TypeId×Value->H) :
  ReturnsInHanded {} Tryz.checked os 5 .any (λw args=>(Rows.engineSameSpec.pre enc Tryz.prog Tryz.f5 [] false w args/\laidMetH Tryz.prog ZE w)/\sizedMet enc Tryz.prog Tryz.f5 (OpenSpec.ofChange Rows.engineSameSpec) false w args)
   (Rows.engineSameSpec.post enc Tryz.prog Tryz.f5 false true false false):=by
 refine Np (C:=Tryz.checked) (X:=λw _=>laidMetH Tryz.prog ZE w) (λ_ _ _ hh h=>h.of_heap hh) own started (by kernel_rfl) Tryz.func5
  (ChangeSpec.witness_shaped (enc:=enc) (C:=Tryz.checked) (os:=os) (X:=λw _=>laidMetH Tryz.prog ZE w) false (aRP os) #[.string ⟨#[]⟩,.string ⟨#[]⟩] 8 rfl
   (World.shaped_of_ZipB (by kernel_rfl) (by kernel_rfl)) (by kernel_rfl) (by kernel_rfl) (by kernel_rfl)
   (laidMetH_of_parts (laidMet_of_run' 8 (by kernel_rfl) (by kernel_rfl)) (by kernel_rfl))) ?_
 intro W base args ds gs before aMt hW _ hL eN;have CI:∀(j:Nat) t v,Tryz.f5.params[j]?=some t->args[j]?=some v->Value.okWide Tryz.prog W .any base t v:=aMt;have aq:=hW.lt;have hW':=hW;obtain⟨p,q,hA0,hV,rfl,_,_⟩:=hW;have hA:DataW.TrodAll enc Tryz.prog W 0 (λ_=>true) true Tryz.f5.params.toList args.toList ds p:=hA0;rw[Tryz.params5]at hA CI;obtain⟨v0,v1,d0,d1,p0,p1,rfl,rfl,rfl,h0,h1⟩:=trodAll_two hA;obtain⟨rfl,rfl⟩:=trodVars_none hV;obtain⟨s0,rfl⟩:=okWide_string Tryz.underlying9 (CI 0 9 v0 rfl rfl);obtain⟨s1,rfl⟩:=okWide_string Tryz.underlying9 (CI 1 9 v1 rfl rfl);simp only[List.append_nil]at hW' aq;have aMv:=Gv s0.data.toList s1.data.toList W (aNd (by kernel_rfl) (by kernel_rfl) (by kernel_rfl) (by kernel_rfl) hL eN) (LU (by kernel_rfl) hL);refine aMv.2.mono λe W' ⟨v,he,hv,hb⟩=>?_;subst he;subst hv;have st:∀{t v d ps} (hl:Tryz.prog.readableRec t=true) (Ko:t<Tryz.prog.types.size) (h:DataW.Trod enc Tryz.prog W 0 (λ_=>true) true t v d ps) (aq:∀x∈ps,x.block<W.heap.size),DataW.Trod enc Tryz.prog W' 0 (λb=>decide (b<W.heap.size)) true t v d ps :=
  λhl Ko h aq=>Below.trod laidOut hl Ko h hb aq
 exact⟨_,rfl,_,_,_,[],p0++p1,[],hW',trodAll_mk1 (shut_bool Tryz.underlying4 _),trodAll_mk2 (st (by kernel_rfl) (of_decide_eq_true (by kernel_rfl)) h0 (λx hx=>aq x (by simp[hx]))) (st (by kernel_rfl) (of_decide_eq_true (by kernel_rfl)) h1 (λx hx=>aq x (by simp[hx]))),rfl,hb.frame _,λh=>by cases h⟩
theorem xr:Rows.EngineSameSaid :=
 OpenClaim.holds_of_wide 5 Tryz.f5 rfl rfl rfl rfl rfl rfl rfl ⟨rfl,rfl,rfl,rfl,rfl⟩ rfl rfl rfl rfl rfl (by kernel_rfl) Tryz.func5 (by kernel_rfl)
  (of_decide_eq_true (by kernel_rfl)) (by unfold Func.isWrapper;first|(rw[if_pos (by decide +kernel)];kernel_rfl)|(rw[if_neg (by decide +kernel)];exact⟨rfl,rfl⟩))
  (λos started H enc _=>lifted os started H enc)
theorem engineSame_card:Rows.EngineSameCardSaid :=
 Claim7.holds_tied_plain_at .later [] [.data,.data,.data,.data,.data,.sentinel,.sentinel,.widerDeep,.pinned] true (true, "60c85caf9394b60f415152326eb287297b7f887c3a82529a2c5e818f2d249131") true xr (λ_ h=>by cases h) (by kernel_rfl) (λ_ h=>by cases h) engineSame_row_tie rfl ⟨rfl,rfl⟩ (by kernel_rfl) rfl
  (λf fn hf hfn=>by
   obtain rfl:f=5:=Option.some.inj ((show Tryz.prog.funcNamed "caesura/caesurakeep.EngineSame"=some 5 by kernel_rfl).symm.trans hf) |>.symm
   obtain rfl:fn=Tryz.f5:=(Option.some.inj (Tryz.func5.symm.trans hfn)).symm;exact⟨by kernel_rfl,λj t ht=>by
    rw[Tryz.params5]at ht;have hm:t∈[9]:=by simpa using Array.mem_of_getElem? ht
    have cg:([9].all λu=>!Tryz.prog.wantsStandIn u)=true:=by kernel_rfl
    exact(show Tryz.prog.wantsStandIn t=false by simpa using List.all_eq_true.1 cg t hm)⟩)
  (by kernel_rfl)
#print axioms engineSame_card
end Go.Proofs.YtemjejfpadnljaaGreatDoor
