/- For every input 'EngineEdits' returns true, and its arguments read afterwards as they read before. No condition but the row's own: the variables that it lists are as the program lays them (the table of trailing zeros, the least code points, the code that is never and the two errors of package strconv are read). -/
import Derived.Test.YtemjejfpadnljaaGreatDoorM16
import Derived.Test.YtemjejfpadnljaaGreatDoorCards
set_option maxRecDepth 100000
set_option linter.unusedSimpArgs false
set_option linter.unusedVariables false
set_option maxHeartbeats 8000000
namespace Go.Proofs.YtemjejfpadnljaaGreatDoor
open Go.ChangeShapes Go.WideShapes Go.ChangeAt Go.RowKit Go.Vc Cae
theorem lifted (os:Os)(started:os.Started)(H:Type)(enc:TypeId×Value->H) :
  ReturnsInHanded {} Tryz.checked os 4 .any (λw args=>(Rows.engineEditsSpec.pre enc Tryz.prog Tryz.f4 [] false w args/\laidMetH Tryz.prog XV w)/\sizedMet enc Tryz.prog Tryz.f4 (OpenSpec.ofChange Rows.engineEditsSpec) false w args)
   (Rows.engineEditsSpec.post enc Tryz.prog Tryz.f4 false true false false):=by
 refine ME (C:=Tryz.checked) (X:=λw _=>laidMetH Tryz.prog XV w) (λ_ _ _ hh h=>h.of_heap hh) own started (by kernel_rfl) Tryz.func4
  (ChangeSpec.witness_shaped (enc:=enc) (C:=Tryz.checked) (os:=os) (X:=λw _=>laidMetH Tryz.prog XV w) false (aPG os) #[.string ⟨#[]⟩,.slice none 0 0,.int .i64 0] 8 rfl
   (World.shaped_of_ZipB (by kernel_rfl) (by kernel_rfl)) (by kernel_rfl) (by kernel_rfl) (by kernel_rfl)
   (laidMetH_of_parts (laidMet_of_run' 8 (by kernel_rfl) (by kernel_rfl)) (by kernel_rfl))) ?_
 intro W base args ds gs before aKq hW _ hL eN;have uY:∀(j:Nat) t v,Tryz.f4.params[j]?=some t->args[j]?=some v->Value.okWide Tryz.prog W .any base t v:=aKq;have ao:=hW.lt;have hW':=hW;obtain⟨p,q,hA0,hV,rfl,_,_⟩:=hW;have hA:DataW.TrodAll enc Tryz.prog W 0 (λ_=>true) true Tryz.f4.params.toList args.toList ds p:=hA0;rw[Tryz.params4]at hA uY;obtain⟨v0,v1,v2,d0,d1,d2,p0,p1,p2,rfl,rfl,rfl,h0,h1,h2⟩:=trodAll_three hA;obtain⟨rfl,rfl⟩:=trodVars_none hV;obtain⟨s0,rfl⟩:=okWide_string Tryz.underlying9 (uY 0 9 v0 rfl rfl);obtain⟨l1,vX⟩:=UK (uY 1 41 v1 rfl rfl) h1;obtain⟨b2,rfl⟩:=okWide_int Tryz.underlying3 (uY 2 3 v2 rfl rfl);simp only[List.append_nil]at hW' ao;have aKs:=Cp s0.data.toList l1 b2 v1 W vX (aK9 (by kernel_rfl) (by kernel_rfl) (by kernel_rfl) (by kernel_rfl) hL eN) (Jf (by kernel_rfl) hL);refine aKs.2.mono λe W' ⟨v,he,hv,hb⟩=>?_;subst he;subst hv;have st:∀{t v d ps} (hl:Tryz.prog.readableRec t=true) (JM:t<Tryz.prog.types.size) (h:DataW.Trod enc Tryz.prog W 0 (λ_=>true) true t v d ps) (ao:∀x∈ps,x.block<W.heap.size),DataW.Trod enc Tryz.prog W' 0 (λb=>decide (b<W.heap.size)) true t v d ps :=
  λhl JM h ao=>Below.trod laidOut hl JM h hb ao
 exact⟨_,rfl,_,_,_,[],p0++(p1++p2),[],hW',trodAll_mk1 (shut_bool Tryz.underlying4 _),trodAll_mk3 (st (by kernel_rfl) (of_decide_eq_true (by kernel_rfl)) h0 (λx hx=>ao x (by simp[hx]))) (st (by kernel_rfl) (of_decide_eq_true (by kernel_rfl)) h1 (λx hx=>ao x (by simp[hx]))) (st (by kernel_rfl) (of_decide_eq_true (by kernel_rfl)) h2 (λx hx=>ao x (by simp[hx]))),rfl,hb.frame _,λh=>by cases h⟩
theorem uF:Rows.EngineEditsSaid :=
 OpenClaim.holds_of_wide 4 Tryz.f4 rfl rfl rfl rfl rfl rfl rfl ⟨rfl,rfl,rfl,rfl,rfl⟩ rfl rfl rfl rfl rfl (by kernel_rfl) Tryz.func4 (by kernel_rfl)
  (of_decide_eq_true (by kernel_rfl)) (by unfold Func.isWrapper;first|(rw[if_pos (by decide +kernel)];kernel_rfl)|(rw[if_neg (by decide +kernel)];exact⟨rfl,rfl⟩))
  (λos started H enc _=>lifted os started H enc)
theorem engineEdits_card:Rows.EngineEditsCardSaid :=
 Claim7.holds_tied_plain_at .later [] [.data,.data,.data,.data,.data,.sentinel,.sentinel,.widerDeep,.pinned] true (true, "60c85caf9394b60f415152326eb287297b7f887c3a82529a2c5e818f2d249131") true uF (λ_ h=>by cases h) (by kernel_rfl) (λ_ h=>by cases h) engineEdits_row_tie rfl ⟨rfl,rfl⟩ (by kernel_rfl) rfl
  (λf fn hf hfn=>by
   obtain rfl:f=4:=Option.some.inj ((show Tryz.prog.funcNamed "caesura/caesurakeep.EngineEdits"=some 4 by kernel_rfl).symm.trans hf) |>.symm
   obtain rfl:fn=Tryz.f4:=(Option.some.inj (Tryz.func4.symm.trans hfn)).symm;exact⟨by kernel_rfl,λj t ht=>by
    rw[Tryz.params4]at ht;have hm:t∈[9,41,3]:=by simpa using Array.mem_of_getElem? ht
    have dD:([9,41,3].all λu=>!Tryz.prog.wantsStandIn u)=true:=by kernel_rfl
    exact(show Tryz.prog.wantsStandIn t=false by simpa using List.all_eq_true.1 dD t hm)⟩)
  (by kernel_rfl)
#print axioms engineEdits_card
end Go.Proofs.YtemjejfpadnljaaGreatDoor
