/- Lemmas. -/
import Derived.Test.YtledlfbbebodgaaGreatDoorM10
import Derived.Test.YtledlfbbebodgaaGreatDoorTie
import Derived.ProofKit
import Derived.Handy
import Derived.Lay
import Derived.OpenShut
import Derived.LaidMore
import Derived.Carry
import Derived.SevenTiedAt
import Derived.LaidHandle
import Derived.LaidSub
import Derived.LaidLaws
import Derived.Lib.LaidTab
import Derived.HandedShaped
import Derived.Shelf.Vars
import Derived.Shelf.Strings.IndexAnyAll
set_option maxRecDepth 100000
set_option linter.unusedSimpArgs false
set_option linter.unusedVariables false
set_option maxHeartbeats 8000000
section
namespace Go.Proofs.YtledlfbbebodgaaGreatDoor
open Go.Vc Go.Proofs Go.RowKit
open Go.RowKit Go.Extern.Stop Go.Stop Go.Extern
def ErrVar (w:World):Prop:=w.cell? ⟨1,0,none⟩=some (.iface 210 (.agg #[.pointer (some ⟨11,31,none⟩)]))
theorem valueOfPE (a:Addr)(w:World):(ReflectliteValue.unpack (.iface 142 (.pointer (some a)))).run Tryz.prog w
  = .ok (.agg #[.pointer (some ⟨11,142,none⟩),.pointer (some ⟨w.heap.size,0,none⟩),.int .u64 150]) (w.alloc (.cells #[.pointer (some a)] 142)):=by kernel_rfl
theorem typePE (a:Addr)(w:World):(ReflectliteValue.methodAny (ReflectliteValue.valueError "reflectlite.Value.Type" 0) (fun t _ _ _=>ReflectliteType.toType t) #[.agg #[.pointer (some ⟨11,142,none⟩),.pointer (some a),.int .u64 150]]).run Tryz.prog w
  = .ok (.iface 210 (.agg #[.pointer (some ⟨11,142,none⟩)])) w:=by kernel_rfl
theorem mKind (h:Value)(w:World):(Go.method (Tryz.prog.types.size+Made.depth) 210 (.agg #[h]) "Kind").run Tryz.prog w=.ok (245,h) w:=by kernel_rfl
theorem mElem (h:Value)(w:World):(Go.method (Tryz.prog.types.size+Made.depth) 210 (.agg #[h]) "Elem").run Tryz.prog w=.ok (257,.agg #[h]) w:=by kernel_rfl
theorem mImplements (h:Value)(w:World):(Go.method (Tryz.prog.types.size+Made.depth) 210 (.agg #[h]) "Implements").run Tryz.prog w=.ok (258,.agg #[h]) w:=by kernel_rfl
theorem mAssignableTo (h:Value)(w:World):(Go.method (Tryz.prog.types.size+Made.depth) 210 (.agg #[h]) "AssignableTo").run Tryz.prog w=.ok (255,.agg #[h]) w:=by kernel_rfl
theorem mUnwrap (a:Addr)(w:World):(Go.method (Tryz.prog.types.size+Made.depth) 92 (.pointer (some a)) "Unwrap").run Tryz.prog w=.ok (250,.pointer (some a)) w:=by kernel_rfl
theorem kindPE (w:World):((ReflectliteType.abiMethod fun t=>(fun a:Nat=>Value.int IntKind.u8 (a:Int)) <$> Rtype.kind t) #[.pointer (some ⟨11,142,none⟩)]).run Tryz.prog w=.ok (.int .u8 22) w:=by kernel_rfl
theorem kindE (w:World):((ReflectliteType.abiMethod fun t=>(fun a:Nat=>Value.int IntKind.u8 (a:Int)) <$> Rtype.kind t) #[.pointer (some ⟨11,83,none⟩)]).run Tryz.prog w=.ok (.int .u8 2) w:=by kernel_rfl
theorem rlm (z:Sem Value)(f:TypeId→Addr→Nat→Nat→Sem Value)(a:Addr)(W:World):(ReflectliteValue.method z f #[.agg #[.pointer (some ⟨11,142,none⟩),.pointer (some a),.int .u64 150]]).run Tryz.prog W=(f 142 a 150 22).run Tryz.prog W:=by kernel_rfl
theorem isNilPE (a p:Addr)(W:World)(ha:W.cell? a=some (.pointer (some p))) :
  (ReflectliteValue.method (ReflectliteValue.valueError "reflectlite.Value.IsNil" 0) ReflectliteValue.isNil #[.agg #[.pointer (some ⟨11,142,none⟩),.pointer (some a),.int .u64 150]]).run Tryz.prog W=.ok (.bool false) W:=by
 rw[rlm];simp[ReflectliteValue.isNil,loadVar,isAgg,underlying,Tryz.underlying142,ha,Result.andThen]
theorem elemPE (w:World):(ReflectliteType.method ReflectliteType.elem #[.agg #[.pointer (some ⟨11,142,none⟩)]]).run Tryz.prog w=.ok (.iface 210 (.agg #[.pointer (some ⟨11,83,none⟩)])) w:=by kernel_rfl
theorem implementsE (w:World):(ReflectliteType.relation "Implements" ReflectliteType.implements_ #[.agg #[.pointer (some ⟨11,83,none⟩)],.iface 210 (.agg #[.pointer (some ⟨11,31,none⟩)])]).run Tryz.prog w=.ok (.bool true) w:=by kernel_rfl
theorem typeOfE (v:Value)(w:World):(ReflectliteType.typeOf #[.iface 83 v]).run Tryz.prog w=.ok (.iface 210 (.agg #[.pointer (some ⟨11,83,none⟩)])) w:=by kernel_rfl
theorem typeOfA (v:Value)(w:World):(ReflectliteType.typeOf #[.iface 92 v]).run Tryz.prog w=.ok (.iface 210 (.agg #[.pointer (some ⟨11,92,none⟩)])) w:=by kernel_rfl
theorem assignE (w:World):(ReflectliteType.relation "AssignableTo" ReflectliteType.assignableTo #[.agg #[.pointer (some ⟨11,83,none⟩)],.iface 210 (.agg #[.pointer (some ⟨11,83,none⟩)])]).run Tryz.prog w=.ok (.bool true) w:=by kernel_rfl
theorem assignA (w:World):(ReflectliteType.relation "AssignableTo" ReflectliteType.assignableTo #[.agg #[.pointer (some ⟨11,92,none⟩)],.iface 210 (.agg #[.pointer (some ⟨11,83,none⟩)])]).run Tryz.prog w=.ok (.bool false) w:=by kernel_rfl
theorem valueOfE (n:Int)(w:World):(ReflectliteValue.unpack (.iface 83 (.int .i64 n))).run Tryz.prog w
  = .ok (.agg #[.pointer (some ⟨11,83,none⟩),.pointer (some ⟨w.heap.size,0,none⟩),.int .u64 130]) (w.alloc (.cells #[.int .i64 n] 83)):=by kernel_rfl
theorem elemOfPE (w:World):(Rtype.elem? 142).run Tryz.prog w=.ok (some 83) w:=by kernel_rfl
theorem mkE (p:Addr)(w:World):(ReflectliteValue.mk 83 p ReflectliteValue.flagAddr).run Tryz.prog w=.ok (.agg #[.pointer (some ⟨11,83,none⟩),.pointer (some p),.int .u64 386]) w:=by kernel_rfl
theorem elemVPE (a p:Addr)(W:World)(ha:W.cell? a=some (.pointer (some p))) :
  (ReflectliteValue.method (ReflectliteValue.valueError "reflectlite.Value.Elem" 0) ReflectliteValue.elem #[.agg #[.pointer (some ⟨11,142,none⟩),.pointer (some a),.int .u64 150]]).run Tryz.prog W
   = .ok (.agg #[.pointer (some ⟨11,83,none⟩),.pointer (some p),.int .u64 386]) W:=by
 rw[rlm];simp[ReflectliteValue.elem,loadVar,isAgg,underlying,Tryz.underlying142,ha,Result.andThen,elemOfPE,mkE]
theorem rls (ta b:Addr)(W:World):(ReflectliteValue.set #[.agg #[.pointer (some ⟨11,83,none⟩),.pointer (some ta),.int .u64 386],.agg #[.pointer (some ⟨11,83,none⟩),.pointer (some b),.int .u64 130]]).run Tryz.prog W=((loadVar 83 b >>= fun x=>storeVar 83 ta x >>= fun _=>pure (.tuple #[])):Sem Value).run Tryz.prog W:=by kernel_rfl
theorem setE (ta b:Addr)(n:Int)(old:Value)(W:World)(hb:W.cell? b=some (.int .i64 n))(ht:W.cell? ta=some old)(hf:W.frozen? ta=false) :
  (ReflectliteValue.set #[.agg #[.pointer (some ⟨11,83,none⟩),.pointer (some ta),.int .u64 386],.agg #[.pointer (some ⟨11,83,none⟩),.pointer (some b),.int .u64 130]]).run Tryz.prog W
   = .ok (.tuple #[]) (W.setCell ta (.int .i64 n)):=by
 rw[rls];simp[loadVar,isAgg,underlying,Tryz.underlying83,hb,Result.andThen,storeVar,Value.cells,storeCells,Addr.add];rw[run_store Tryz.prog W ta _ _ (by rfl)];simp[ht,hf]
end Go.Proofs.YtledlfbbebodgaaGreatDoor
end
section
namespace Go.Proofs.YtledlfbbebodgaaGreatDoor
open Go.Vc Go.Proofs Go.RowKit Cae
attribute [local irreducible] wpL callK valK unitK runK Fun Sl Vc.Own vc vcOps opK pureK
open Go.RowKit Go.Extern.Stop Go.Stop Go.Extern
theorem unwrap_c (b:Nat)(n:Int)(w:World)(hB:w.cell? ⟨b,0,none⟩=some (.int .i64 n)):Fun Tryz.prog 250 [.pointer (some ⟨b,0,none⟩)] w fun v w'=>v=.iface 83 (.int .i64 n)∧w'=w:=by
 refine fun_of_vc Tryz.func250 rfl (by kernel_rfl) [2] rfl ?_;simp -dsimp (maxSteps:=4000000) only[push_cast,fr0,Tryz.ntmps250,List.length_cons,List.length_nil,Nat.reduceAdd,Nat.reduceSub,Nat.reduceBEq,List.replicate_succ,List.replicate_zero];simp -dsimp only[push_cast,Nat.reduceAdd,Nat.reduceLeDiff,Nat.reduceBEq,Int.reduceNe,Int.reduceEq,Int.reduceLT,Int.reduceLE,hB]
inductive IsErr (w:World):Value→Int→Prop
 | bare (n:Int):IsErr w (.iface 83 (.int .i64 n)) n
 | at_ (b:Nat) (n:Int):w.cell? ⟨b,0,none⟩=some (.int .i64 n)→IsErr w (.iface 92 (.pointer (some ⟨b,0,none⟩))) n
theorem IsErr.mono {w w':World}{v:Value}{n:Int}{X:Nat→Prop}(h:IsErr w v n)(hk:Kept X w w')(hX:∀a,v=.iface 92 (.pointer (some a))→¬X a.block):IsErr w' v n:=by
 cases h with
 | bare n=>exact .bare n
 | at_ b n hb=>exact .at_ b n (hk.cell hb (hX _ rfl))
theorem as_c (v u:Value)(n:Int)(b c:Nat)(w:World)(hv:IsErr w v n)(hB:Blk w b 83 [u])(hc:w.cell? ⟨c,0,none⟩=some (.pointer (some ⟨b,0,none⟩))) :
  Fun Tryz.prog 103 [v,.iface 142 (.pointer (some ⟨b,0,none⟩)),.agg #[.pointer (some ⟨11,142,none⟩),.pointer (some ⟨c,0,none⟩),.int .u64 150],.iface 210 (.agg #[.pointer (some ⟨11,83,none⟩)])] w
   fun r w'=>r=.bool true∧Blk w' b 83 [.int .i64 n]∧Kept (·=b) w w':=by
 refine fun_of_vc Tryz.func103 rfl (by kernel_rfl) [8] rfl ?_;simp -dsimp (maxSteps:=4000000) only[push_cast,fr0,Tryz.ntmps103,List.length_cons,List.length_nil,Nat.reduceAdd,Nat.reduceSub,Nat.reduceBEq,List.replicate_succ,List.replicate_zero];refine boxK_of ?_;intro w1 hw1;simp -dsimp only[push_cast,Nat.reduceAdd,Nat.reduceLeDiff,Nat.reduceBEq,Int.reduceNe,Int.reduceEq,Int.reduceLT,Int.reduceLE]
 refine wpL_loop [0,8,9,10,11,12,14,15,16,17,18,19,20,21,22,23,24,25,26,27,28,29,30,31,32,33,34,35,36,37,38,39,40,41,42,43,44,45,46,47,48,49,50,51,52,53,54,55,56,57,58,59,60,61] (fun z wx=>IsErr wx (z 0) n∧Kept (fun _=>False) w1 wx) (fun z _=>match z 0 with|.iface _ (.pointer _)=>1|_=>0) ?_ ?_
 ·exact⟨hv.mono (Kept.new hw1 (X:=fun _=>False)) (fun _ _=>id),Kept.refl _ _⟩
 ·intro z wx hI;obtain⟨hv,hk⟩:=hI;have hk0:Kept (fun _=>False) w wx:=(Kept.new hw1).trans hk (fun _ _=>id);have hB:=hB.kept hk0 id;have hc:=hk0.cell hc id;have c1:cellsAt wx ⟨w.heap.size,0,none⟩ 0 3=some [.pointer (some ⟨11,142,none⟩),.pointer (some ⟨c,0,none⟩),.int .u64 150] :=
   cellsAt_of (b:=w.heap.size) (o:=0) [.pointer (some ⟨11,142,none⟩),.pointer (some ⟨c,0,none⟩),.int .u64 150] 0 (fun j u hu=>hk.cell (by simpa using hw1.cell hu) id)
  generalize hz:z 0=v0 at hv;cases hv with
  | bare n =>
   simp -dsimp only[push_cast,Nat.reduceAdd,Nat.reduceLeDiff,Nat.reduceBEq,Int.reduceNe,Int.reduceEq,Int.reduceLT,Int.reduceLE,hz];refine callK_ext (e:=ReflectliteType.typeOf) Tryz.func135 (by kernel_rfl) (by kernel_rfl) (by kernel_rfl) (by kernel_rfl) (typeOfE _ _) ?_;simp -dsimp only[push_cast,Nat.reduceAdd,Nat.reduceLeDiff,Nat.reduceBEq,Int.reduceNe,Int.reduceEq,Int.reduceLT,Int.reduceLE]
   refine invK_of (mAssignableTo _ _) ?_;refine callK_ext (e:=ReflectliteType.relation "AssignableTo" ReflectliteType.assignableTo) Tryz.func255 (by kernel_rfl) (by kernel_rfl) (by kernel_rfl) (by kernel_rfl) (assignE _) ?_;simp -dsimp only[push_cast,Nat.reduceAdd,Nat.reduceLeDiff,Nat.reduceBEq,Int.reduceNe,Int.reduceEq,Int.reduceLT,Int.reduceLE,c1]
   refine callK_ext (e:=ReflectliteValue.method (ReflectliteValue.valueError "reflectlite.Value.Elem" 0) ReflectliteValue.elem) Tryz.func136 (by kernel_rfl) (by kernel_rfl) (by kernel_rfl) (by kernel_rfl) (elemVPE _ _ _ hc) ?_;simp -dsimp only[push_cast,Nat.reduceAdd,Nat.reduceLeDiff,Nat.reduceBEq,Int.reduceNe,Int.reduceEq,Int.reduceLT,Int.reduceLE]
   refine callK_ext (e:=fun args=>ReflectliteValue.unpack (args.getD 0 (.tuple #[]))) Tryz.func100 (by kernel_rfl) (by kernel_rfl) (by kernel_rfl) (by kernel_rfl) (valueOfE _ _) ?_;simp -dsimp only[push_cast,Nat.reduceAdd,Nat.reduceLeDiff,Nat.reduceBEq,Int.reduceNe,Int.reduceEq,Int.reduceLT,Int.reduceLE];have hN:New wx (wx.alloc (.cells #[.int .i64 n] 83)) 83 [.int .i64 n]:=⟨rfl⟩
   generalize wx.alloc (.cells #[.int .i64 n] 83)=w2 at hN;have hB2:=hB.kept (Kept.new hN (X:=fun _=>False)) id;have hf:w2.frozen? ⟨b,0,none⟩=false:=by
    simp only[World.frozen?];rw[show w2.heap[b]?=_ from hB2];simp
   refine callK_ext (e:=ReflectliteValue.set) Tryz.func137 (by kernel_rfl) (by kernel_rfl) (by kernel_rfl) (by kernel_rfl) (setE _ _ n u _ (hN.cell rfl) (hB2.cell rfl) hf) ?_;simp -dsimp only[push_cast,Nat.reduceAdd,Nat.reduceLeDiff,Nat.reduceBEq,Int.reduceNe,Int.reduceEq,Int.reduceLT,Int.reduceLE];have hP:=Put.of_setRow (cs:=[.int .i64 n]) hB2;rw[setCell_eq_setRow w2 b 0 _ _ (0,0) _ hB2]
   exact⟨hP.blk,(hk0.trans (Kept.new hN (X:=fun _=>False)) (fun _ _=>id)).weaken (fun _ _ h=>h.elim) |>.trans hP.kept (fun _ _=>id)⟩
  | at_ a n ha =>
   simp -dsimp only[push_cast,Nat.reduceAdd,Nat.reduceLeDiff,Nat.reduceBEq,Int.reduceNe,Int.reduceEq,Int.reduceLT,Int.reduceLE,hz];refine callK_ext (e:=ReflectliteType.typeOf) Tryz.func135 (by kernel_rfl) (by kernel_rfl) (by kernel_rfl) (by kernel_rfl) (typeOfA _ _) ?_;simp -dsimp only[push_cast,Nat.reduceAdd,Nat.reduceLeDiff,Nat.reduceBEq,Int.reduceNe,Int.reduceEq,Int.reduceLT,Int.reduceLE]
   refine invK_of (mAssignableTo _ _) ?_;refine callK_ext (e:=ReflectliteType.relation "AssignableTo" ReflectliteType.assignableTo) Tryz.func255 (by kernel_rfl) (by kernel_rfl) (by kernel_rfl) (by kernel_rfl) (assignA _) ?_;simp -dsimp only[push_cast,Nat.reduceAdd,Nat.reduceLeDiff,Nat.reduceBEq,Int.reduceNe,Int.reduceEq,Int.reduceLT,Int.reduceLE,c1]
   refine assert_lacks (z:=.nilIface) Tryz.underlying215 (by kernel_rfl) (by kernel_rfl) ?_;simp -dsimp only[push_cast,Nat.reduceAdd,Nat.reduceLeDiff,Nat.reduceBEq,Int.reduceNe,Int.reduceEq,Int.reduceLT,Int.reduceLE];refine assert_has Tryz.underlying218 (by kernel_rfl) ?_;simp -dsimp only[push_cast,Nat.reduceAdd,Nat.reduceLeDiff,Nat.reduceBEq,Int.reduceNe,Int.reduceEq,Int.reduceLT,Int.reduceLE]
   refine invK_of (mUnwrap _ _) (callK_of (unwrap_c a n wx ha) ?_);rintro _ _ ⟨rfl,rfl⟩;simp -dsimp only[push_cast,Nat.reduceAdd,Nat.reduceLeDiff,Nat.reduceBEq,Int.reduceNe,Int.reduceEq,Int.reduceLT,Int.reduceLE];exact⟨⟨.bare n,hk⟩,Nat.zero_lt_one⟩
theorem asE_c (v u:Value)(n:Int)(b:Nat)(w:World)(hE:ErrVar w)(hv:IsErr w v n)(hB:Blk w b 83 [u]) :
  Fun Tryz.prog 60 [v,.iface 142 (.pointer (some ⟨b,0,none⟩))] w
   fun r w'=>r=.bool true∧Blk w' b 83 [.int .i64 n]∧Kept (·=b) w w':=by
 obtain⟨ty,vv,hvv⟩:∃ty vv,v=.iface ty vv:=by cases hv<;>exact⟨_,_,rfl⟩
 refine fun_of_vc Tryz.func60 rfl (by kernel_rfl) [4] rfl ?_;push_cast -dsimp(maxSteps:=4000000) [Tryz.ntmps60];subst hvv;push_cast -dsimp;refine callK_ext (e:=fun args=>ReflectliteValue.unpack (args.getD 0 (.tuple #[]))) Tryz.func100 (by kernel_rfl) (by kernel_rfl) (by kernel_rfl) (by kernel_rfl) (valueOfPE _ _) ?_
 have hN:New w (w.alloc (.cells #[.pointer (some ⟨b,0,none⟩)] 142)) 142 [.pointer (some ⟨b,0,none⟩)]:=⟨rfl⟩;generalize w.alloc (.cells #[.pointer (some ⟨b,0,none⟩)] 142)=w1 at hN;have k1:Kept (fun _=>False) w w1:=Kept.new hN;push_cast -dsimp;refine allocK (z:=[.pointer none,.pointer none,.int .u64 0]) (by kernel_rfl) ?_;intro w2 hw2;have k2:=k1.trans (Kept.new (X:=fun _=>False) hw2) (fun _ _=>id)
 push_cast -dsimp;refine storeAgg (n:=3) (by kernel_rfl) hw2.blk rfl (by simp) (by simp[Value.oneCell']) ?_;intro w3 hw3;have k3:Kept (fun k=>w.heap.size≤k) w w3:=(k2.weaken (fun _ _ h=>h.elim)).trans hw3.kept (fun i _ h=>by have:=hN.size;show w.heap.size≤i;omega);have hB3:=hB.kept k3 (by have:=hB.lt;omega)
 have c3:cellsAt w3 ⟨w1.heap.size,0,none⟩ 0 3=some [.pointer (some ⟨11,142,none⟩),.pointer (some ⟨w.heap.size,0,none⟩),.int .u64 150] :=
  cellsAt_of (b:=w1.heap.size) (o:=0) [.pointer (some ⟨11,142,none⟩),.pointer (some ⟨w.heap.size,0,none⟩),.int .u64 150] 0 (fun j u hu=>by simpa using hw3.blk.cell (by simpa using hu))
 push_cast -dsimp[c3];refine callK_ext (e:=ReflectliteValue.methodAny (ReflectliteValue.valueError "reflectlite.Value.Type" 0) (fun t _ _ _=>ReflectliteType.toType t)) Tryz.func101 (by kernel_rfl) (by kernel_rfl) (by kernel_rfl) (by kernel_rfl) (typePE _ _) ?_;have k3':Kept (fun _=>False) w w3:=⟨k3.os,k3.tape,k3.output,k3.size,fun i hi _=>k3.block i hi (by omega)⟩
 have hE3:ErrVar w3:=k3'.cell hE id;have hs3:w3.cell? ⟨w.heap.size,0,none⟩=some (.pointer (some ⟨b,0,none⟩)):=hw3.kept.cell (World.cell?_of_block (w:=w1) (hw2.below.block w.heap.size (by have:=hN.size;omega)) |>.trans (hN.cell rfl)) (by have:=hN.size;show ¬w.heap.size=w1.heap.size;omega);unfold ErrVar at hE3;push_cast -dsimp;refine invK_of (mKind _ _) ?_
 refine callK_ext (e:=ReflectliteType.abiMethod fun t=>do pure (.int .u8 (←Rtype.kind t))) Tryz.func245 (by kernel_rfl) (by kernel_rfl) (by kernel_rfl) (by kernel_rfl) (kindPE _) ?_;push_cast -dsimp[c3]
 refine callK_ext (e:=ReflectliteValue.method (ReflectliteValue.valueError "reflectlite.Value.IsNil" 0) ReflectliteValue.isNil) Tryz.func102 (by kernel_rfl) (by kernel_rfl) (by kernel_rfl) (by kernel_rfl) (isNilPE _ _ _ hs3) ?_;push_cast -dsimp;refine invK_of (mElem _ _) ?_
 refine callK_ext (e:=ReflectliteType.method ReflectliteType.elem) Tryz.func257 (by kernel_rfl) (by kernel_rfl) (by kernel_rfl) (by kernel_rfl) (elemPE _) ?_;push_cast -dsimp;refine invK_of (mKind _ _) ?_;refine callK_ext (e:=ReflectliteType.abiMethod fun t=>do pure (.int .u8 (←Rtype.kind t))) Tryz.func245 (by kernel_rfl) (by kernel_rfl) (by kernel_rfl) (by kernel_rfl) (kindE _) ?_
 push_cast -dsimp[hE3];refine invK_of (mImplements _ _) ?_;refine callK_ext (e:=ReflectliteType.relation "Implements" ReflectliteType.implements_) Tryz.func258 (by kernel_rfl) (by kernel_rfl) (by kernel_rfl) (by kernel_rfl) (implementsE _) ?_;push_cast -dsimp[c3];refine callK_of (as_c _ u n b w.heap.size w3 (hv.mono k3' (fun _ _=>id)) hB3 hs3) ?_;rintro _ w4 ⟨rfl,hB4,hk4⟩;push_cast -dsimp
 exact⟨hB4,(k3'.weaken (fun _ _ h=>h.elim)).trans hk4 (fun _ _=>id)⟩
theorem tell_c (v:Value)(n:Int)(w:World)(hE:ErrVar w)(hv:IsErr w v n):Fun Tryz.prog 32 [v] w fun r w'=>r=.int .i64 n∧Below w.heap.size w w':=by
 obtain⟨ty,vv,hvv⟩:∃ty vv,v=.iface ty vv:=by cases hv<;>exact⟨_,_,rfl⟩
 refine fun_of_vc Tryz.func32 rfl (by kernel_rfl) [2] rfl ?_;push_cast -dsimp(maxSteps:=4000000) [Tryz.ntmps32];subst hvv;push_cast -dsimp;refine allocK (z:=[.int .i64 0]) (by kernel_rfl) ?_;intro w1 hw1;have k1:Kept (fun _=>False) w w1:=Kept.new hw1;push_cast -dsimp;refine callK_of (asE_c _ _ n _ w1 (k1.cell hE id) (hv.mono k1 (fun _ _=>id)) hw1.blk) ?_;rintro _ w2 ⟨rfl,hB2,hk2⟩
 have c2:=hB2.cell (o:=0) rfl;push_cast -dsimp[c2];exact hw1.below.trans (hk2.below (Nat.le_of_lt (by have:=hw1.size;omega)) (fun i h=>by subst h;exact Nat.le_refl _))
end Go.Proofs.YtledlfbbebodgaaGreatDoor
end
section
namespace Go.Proofs.YtledlfbbebodgaaGreatDoor
open Go.Vc Go.Proofs Go.RowKit Cae
attribute [local irreducible] wpL callK valK unitK runK Fun Sl Vc.Own vc vcOps opK pureK
theorem ErrVar.on {w w':World}(h:ErrVar w)(hb:Below w.heap.size w w'):ErrVar w':=(hb.cell (World.block_lt_of_cell? w _ h)).trans h
structure Vl (w:World):Prop where
 d:Db w
 e:SErrs w
 l:Least w
 g:11≤w.heap.size
theorem Vl.below {w w':World}(h:Vl w)(hb:Below w.heap.size w w'):Vl w':=⟨h.d.below hb h.d.lt,h.e.below hb,h.l.below hb,by have:=hb.size;have:=h.g;omega⟩
theorem cellsF3 {a1 a2:Option Addr}{n1 k1 n2 k2:Nat}{e:Bool}:∀v∈[Value.slice a1 n1 k1,.slice a2 n2 k2,.bool e],v.oneCell'=true:=by
 intro v hv;simp only[List.mem_cons,List.not_mem_nil,or_false]at hv;rcases hv with rfl|rfl|rfl<;>rfl
end Go.Proofs.YtledlfbbebodgaaGreatDoor
end
section
namespace Go.Proofs.YtledlfbbebodgaaGreatDoor
open Go.ChangeShapes Go.WideShapes Go.ChangeAt Go.RowKit Go.Vc Cae
theorem own:ownKnob Tryz.prog.godebug=none:=by kernel_rfl
theorem laidOut:laidOutB Tryz.prog=true:=by kernel_rfl
def dbTab:List Int:=[0,1,56,2,57,49,28,3,61,58,42,50,38,29,17,4,62,47,59,36,45,43,51,22,53,39,33,30,24,18,12,5,63,55,48,27,60,41,37,16,46,35,44,21,52,32,23,11,54,26,40,15,34,20,31,10,25,14,19,9,13,8,7,6]
theorem db_of {W:World}{l:List (String×DataW Unit)}(hl:(l.filter fun x=>x.1 == "math/bits.deBruijn64tab")=[("math/bits.deBruijn64tab",Rows.laid_math_bits_deBruijn64tab)])(h:laidMetH Tryz.prog l W):Db W:=by
 have h:=h.filter (fun x=>x.1 == "math/bits.deBruijn64tab");rw[hl,MakeChecks.laidMetH_plain _ _ _ (by kernel_rfl)]at h;have hg:Tryz.prog.globalNamed "math/bits.deBruijn64tab"=some 8:=by kernel_rfl
 have ht:Lib.TabIs Tryz.prog W "math/bits.deBruijn64tab" .u8 dbTab:=Lib.tabIs_of_head (n:=64) (t:=300) (e:=5) hg (by kernel_rfl) (by kernel_rfl) (by kernel_rfl) (by kernel_rfl) (by kernel_rfl) h;exact ht.cell hg 15 (by decide)
theorem errs_of {W:World}{l:List (String×DataW Unit)}(h1:(l.filter fun x=>x.1 == "strconv.ErrSyntax")=[("strconv.ErrSyntax",Rows.laid_strconv_ErrSyntax)])(h2:(l.filter fun x=>x.1 == "strconv.ErrRange")=[("strconv.ErrRange",Rows.laid_strconv_ErrRange)])(h:laidMetH Tryz.prog l W):SErrs W:=by
 constructor
 ·have h:=h.filter (fun x=>x.1 == "strconv.ErrSyntax");rw[h1,MakeChecks.laidMetH_plain _ _ _ (by kernel_rfl)]at h;obtain⟨ps,⟨g,t,cs,fuel,p,q,hg,ht,hv,hd,_,_⟩,_,_⟩:=h;obtain rfl:=Option.some.inj ((show Tryz.prog.globalNamed "strconv.ErrSyntax"=some 5 by kernel_rfl).symm.trans hg);obtain rfl:=Option.some.inj ((show (Tryz.prog.globals[5]?).map (·.type)=some 31 by kernel_rfl).symm.trans ht)
  obtain⟨_,u,v,hcs,_,_⟩:=iface_of_trod Tryz.underlying31 hd;obtain⟨lc⟩:=cs;have hcs':lc=[.iface u v]:=hcs;subst hcs';exact⟨u,v,by simpa using World.var?_cell hg hv 0⟩
 ·have h:=h.filter (fun x=>x.1 == "strconv.ErrRange");rw[h2,MakeChecks.laidMetH_plain _ _ _ (by kernel_rfl)]at h;obtain⟨ps,⟨g,t,cs,fuel,p,q,hg,ht,hv,hd,_,_⟩,_,_⟩:=h;obtain rfl:=Option.some.inj ((show Tryz.prog.globalNamed "strconv.ErrRange"=some 6 by kernel_rfl).symm.trans hg);obtain rfl:=Option.some.inj ((show (Tryz.prog.globals[6]?).map (·.type)=some 31 by kernel_rfl).symm.trans ht)
  obtain⟨_,u,v,hcs,_,_⟩:=iface_of_trod Tryz.underlying31 hd;obtain⟨lc⟩:=cs;have hcs':lc=[.iface u v]:=hcs;subst hcs';exact⟨u,v,by simpa using World.var?_cell hg hv 0⟩
def laidE:List (String×DataW Unit):=[("errors.errorType",Rows.laid_errors_errorType)]
theorem errVar_of {W:World}{l:List (String×DataW Unit)}(hl:(l.filter fun x=>x.2.handleName?.isSome)=laidE)(h:laidMetH Tryz.prog l W):ErrVar W:=by
 have h':=(laidMetH_iff.1 h).2;obtain⟨name,u,ty,e1,e2,e3,e4,e5⟩:=h' ("errors.errorType",Rows.laid_errors_errorType) (by rw[hl];exact List.mem_singleton.2 rfl);have en:name=[101,114,114,111,114]:=(Option.some.inj e1).symm;subst en;obtain rfl:=Option.some.inj ((show (Tryz.prog.cutTypes.find? (·.1 == "internal/reflectlite.rtype")).map (·.2)=some 210 by kernel_rfl).symm.trans e2)
 have hm:ty∈(List.range Tryz.prog.types.size).filter fun t=>Tryz.prog.rowNamed t [101,114,114,111,114]:=List.mem_filter.2 ⟨List.mem_range.2 e3,e4⟩;rw[show ((List.range Tryz.prog.types.size).filter fun t=>Tryz.prog.rowNamed t [101,114,114,111,114])=[31] by kernel_rfl]at hm;obtain rfl:=List.mem_singleton.1 hm;rw[show typeHandle Tryz.prog 31=.pointer (some ⟨11,31,none⟩) by kernel_rfl]at e5
 have:=World.var?_cell (show Tryz.prog.globalNamed "errors.errorType"=some 1 by kernel_rfl) e5 0;unfold ErrVar;simpa using this
theorem least_of {W:World}{l:List (String×DataW Unit)}(hl:(l.filter fun x=>x.1 == "caesura/utf.least")=[("caesura/utf.least",Rows.laid_caesura_utf_least)])(h:laidMetH Tryz.prog l W):Least W:=by
 have h:=h.filter (fun x=>x.1 == "caesura/utf.least");rw[hl,MakeChecks.laidMetH_plain _ _ _ (by kernel_rfl)]at h;obtain⟨ps,⟨g,t,cs,fuel,p,q,hg,ht,hv,hd,_,_⟩,_,_⟩:=h;obtain rfl:=Option.some.inj ((show Tryz.prog.globalNamed "caesura/utf.least"=some 0 by kernel_rfl).symm.trans hg);obtain rfl:=Option.some.inj ((show (Tryz.prog.globals[0]?).map (·.type)=some 151 by kernel_rfl).symm.trans ht)
 have c5:Tryz.prog.cellsOf 3=1:=by kernel_rfl
 have c29:Tryz.prog.cellsOf 151=5:=by kernel_rfl
 obtain⟨xs,m,_,ex,hlen,hl,hel⟩:=DataW.trod_array Tryz.underlying151 hd;rw[c29]at hlen;have key:cs=#[.int .i64 0,.int .i64 0,.int .i64 128,.int .i64 2048,.int .i64 65536]:=by
  obtain⟨l⟩:=cs;match l,hlen with
  | [a,b,c,d,e],_ =>
   match xs,hl with
   | [x0,x1,x2,x3,x4],_ =>
    have e3:=(DataW.agg.inj (Prod.mk.inj ex).1);simp only[List.map_cons,List.map_nil,List.cons.injEq,and_true]at e3;have k0:=hel 0 (by omega);have k1:=hel 1 (by omega);have k2:=hel 2 (by omega);have k3:=hel 3 (by omega);have k4:=hel 4 (by omega);rw[c5]at k0 k1 k2 k3 k4;obtain⟨z0,a0,b0,_⟩:=DataW.trod_int Tryz.underlying3 k0;obtain⟨z1,a1,b1,_⟩:=DataW.trod_int Tryz.underlying3 k1
    obtain⟨z2,a2,b2,_⟩:=DataW.trod_int Tryz.underlying3 k2;obtain⟨z3,a3,b3,_⟩:=DataW.trod_int Tryz.underlying3 k3;obtain⟨z4,a4,b4,_⟩:=DataW.trod_int Tryz.underlying3 k4;simp_all;omega
 subst key;intro k hk;rw[World.var?_cell hg hv k];have:k=0∨k=1∨k=2∨k=3∨k=4:=by omega
 rcases this with e|e|e|e|e<;>subst e<;>rfl
theorem handed_and {H:Type} {enc:TypeId×Value→H} {a:Assume} {C:Checked} {os:Os} {f:FuncId} {fn:Func} {s:ChangeSpec} {conds:List PathCond} {apart fresh handsOn again:Bool} {X:World→Array Value→Prop}
  (hX:∀(w w':World) (args:Array Value),w.heap=w'.heap→X w args→X w' args)
  (own:ownKnob C.prog.godebug=none) (started:os.Started) (noInit:C.prog.inits.idxOf? f=none) (hfn:C.prog.funcs[f]?=some fn)
  (witness:∃(w:World) (tape:Tape) (i:Input),w.os=os∧(w.forCall tape i).Shaped C.prog∧i.vars=[]∧Input.okWide C.prog (w.forCall tape i) .any w.heap.size f i ∧
   ((s.pre enc C.prog fn conds apart (w.forCall tape i).memory i.args∧X (w.forCall tape i).memory i.args)∧sizedMet enc C.prog fn (OpenSpec.ofChange s) apart (w.forCall tape i).memory i.args)∧a.holds C.prog (lone (Frame.enter C.prog f i.args .normal) [] (w.forCall tape i)))
  (contract:∀(W:World) (base:Nat) (args:Array Value) (ds gs:List (DataW H)) (before:List MemPlace),
   (∀(j:Nat) t v,fn.params[j]?=some t→args[j]?=some v→Value.okWide C.prog W .any base t v) →
   DataW.Whole enc C.prog fn.params.toList s.vars apart W args.toList ds gs before →
   (DataW.weightsEach C.prog (fn.params.toList++s.plain.varTypes C.prog) (ds++gs)).all (·≤reachBytes)=true→X W args→W.ShapedOpen C.prog →
   Calls C.prog f args W fun e W'=>∃v,e=.returned v∧s.post enc C.prog fn apart fresh handsOn again W args v W') :
  ReturnsInHanded a C os f .any (fun w args=>(s.pre enc C.prog fn conds apart w args∧X w args)∧sizedMet enc C.prog fn (OpenSpec.ofChange s) apart w args) (s.post enc C.prog fn apart fresh handsOn again):=by
 refine returnsInHanded_of_calls own started noInit witness ?_
 intro w tape i _ hsh _ hok hpre hholds
 obtain⟨_,_,_,fn',hfn',_,_,_,_,hval⟩:=hok
 have e:fn'=fn:=Option.some.inj (hfn'.symm.trans hfn)
 subst e
 obtain⟨⟨⟨ds,gs,before,hw,hc⟩,hx⟩,hz⟩:=hpre
 have hw':=DataW.Whole.of_heap (w':=w.forCall tape i) (by rfl) hw
 refine(contract (w.forCall tape i) w.heap.size i.args ds gs before hval hw' (hz.weights hw) (hX _ _ _ (by rfl) hx) hsh).mono fun e W' ⟨v,he,hp⟩=>?_
 subst he
 exact ChangeSpec.post_blind hp
theorem ng_of {W:World}(h:W.ShapedOpen Tryz.prog):11≤W.heap.size:=by
 obtain⟨o,o0,h1,_⟩:=h.2 11 (of_decide_eq_true (by kernel_rfl)) (of_decide_eq_true (by kernel_rfl));have:=(Array.getElem?_eq_some_iff.1 h1).1;omega
def laidC:List (String×DataW Unit):=[("math/bits.deBruijn32tab",Rows.laid_math_bits_deBruijn32tab),("math/bits.deBruijn64tab",Rows.laid_math_bits_deBruijn64tab),("internal/strconv.uint64pow10",Rows.laid_internal_strconv_uint64pow10),("unicode/utf8.acceptRanges",Rows.laid_unicode_utf8_acceptRanges),("errors.errorType",Rows.laid_errors_errorType),("caesura/utf.least",Rows.laid_caesura_utf_least),("strconv.ErrRange",Rows.laid_strconv_ErrRange),("strconv.ErrSyntax",Rows.laid_strconv_ErrSyntax),("unicode/utf8.first",Rows.laid_unicode_utf8_first)]
theorem vl_of {W:World}{l:List (String×DataW Unit)}(h1:(l.filter fun x=>x.1 == "math/bits.deBruijn64tab")=[("math/bits.deBruijn64tab",Rows.laid_math_bits_deBruijn64tab)])(h2:(l.filter fun x=>x.1 == "strconv.ErrSyntax")=[("strconv.ErrSyntax",Rows.laid_strconv_ErrSyntax)])(h3:(l.filter fun x=>x.1 == "strconv.ErrRange")=[("strconv.ErrRange",Rows.laid_strconv_ErrRange)])(h4:(l.filter fun x=>x.1 == "caesura/utf.least")=[("caesura/utf.least",Rows.laid_caesura_utf_least)])
  (h:laidMetH Tryz.prog l W) (hs:W.ShapedOpen Tryz.prog):Vl W :=
 ⟨db_of h1 h,errs_of h2 h3 h,least_of h4 h,ng_of hs⟩
noncomputable def witC (os:Os):World :=
 { World.doorLaid Tryz.prog 85 os with heap:=(World.doorLaid Tryz.prog 85 os).heap.modify 9 fun o=>match o with
  | .cells _ t x=>.cells (Go.Pinned.utf8FirstZ.map fun(n:Nat)=>Value.int .u8 (n:Int)).toArray t x
  | o=>o }
end Go.Proofs.YtledlfbbebodgaaGreatDoor
end
section
namespace Go.Proofs.YtledlfbbebodgaaGreatDoor
open Go.Vc Go.Proofs Go.RowKit Cae
attribute [local irreducible] wpL callK valK unitK runK Fun Sl Vc.Own vc vcOps opK pureK
theorem points_c (s:List UInt8)(hs:s.length<1000000)(w:World)(hg:Least w) :
  Fun Tryz.prog 24 [str s] w fun v w'=>Vc.Own w.heap.size 3 1 encZ w' v ((udec 0 s).map fun u=>(u.p:Int))∧Below w.heap.size w w':=by
 refine fun_of_vc Tryz.func24 rfl (by kernel_rfl) [2] rfl ?_;push_cast -dsimp(maxSteps:=4000000) [Tryz.ntmps24];refine callK_of (decode_c s hs w hg) ?_;rintro v w1 ⟨ho,hb⟩;have hsl:=ho.sl;obtain⟨a,c,rfl,hc⟩:=hsl.shape;push_cast -dsimp;refine wpL_loop [3,5,8,9,10,11,12,13,14,15,16,17,18,19,20,21] (fun z wx=>∃(i:Nat),z 5=.int .i64 i∧i≤(udec 0 s).length ∧
  Vc.Own w1.heap.size 3 1 encZ wx (z 3) (((udec 0 s).take i).map fun u=>(u.p:Int))∧Below w1.heap.size w1 wx) (fun z _=>(udec 0 s).length-(intOf (z 5)).toNat) ?_ ?_
 ·exact⟨0,rfl,Nat.zero_le _,Vc.Own.nil (enc:=encZ) _ _ (fun _=>rfl) _,Below.refl _ _⟩
 ·intro z wx hI;obtain⟨i,h5,hi,ho3,hb1⟩:=hI;push_cast -dsimp[h5];refine⟨fun hlt=>?_,fun hge=>?_⟩
  ·obtain⟨x,hx,hxm,hd,ht⟩:=lt_get (l:=udec 0 s) (i:=i) (by omega);obtain⟨b,o,rfl,hX,hcell⟩:=(hsl.below hb1).get hx;have c0:wx.cell? ⟨b,o+i*3,none⟩=some (.int .i64 x.p):=hcell 0 _ rfl;push_cast -dsimp[c0];refine⟨⟨by omega,by omega⟩,?_⟩;refine rowK elI_53 rfl rfl (by omega) ?_;intro w2 hw2;push_cast -dsimp
   refine appendK (ys:=[(x.p:Int)]) (enc:=encZ) elI_53 (ho3.below hw2.below) (fun j u hu=>by simpa using hw2.cell hu) (by simp[encZ,Value.oneCell']) (by have:=udec_length s.length s 0 rfl;simp only[List.length_map,List.length_take,List.length_cons,List.length_nil];omega) (by have:=hb.size;have:=hb1.size;have:=hw2.size;omega) ?_;intro v' w3 ho4 _ hb3;push_cast -dsimp
   have hl:=udec_length s.length s 0 rfl;exact⟨⟨by omega,by omega⟩,⟨i+1,rfl,by omega,by rw[ht];simpa using ho4,hb1.trans ((hw2.below.mono hb1.size).trans hb3)⟩,by rw[h5];simp only[intOf];omega⟩
  ·rw[List.take_of_length_le (by omega)]at ho3;exact⟨ho3.mono hb.size,hb.trans (hb1.mono hb.size)⟩
end Go.Proofs.YtledlfbbebodgaaGreatDoor
end
section
namespace Cae
theorem indexAny_has:∀(s cs:List UInt8) (x:UInt8),x∈s→cs.contains x=true→0≤Go.Lib.indexAny s cs:=by
 intro s cs x hx hc
 induction s with
 | nil=>cases hx
 | cons b l ih =>
  unfold Go.Lib.indexAny
  split
  ·decide
  ·rename_i hb
   have hl:x∈l:=by
    rcases List.mem_cons.1 hx with e|h
    ·subst e;exact absurd hc hb
    ·exact h
   have:=ih hl
   split
   ·rename_i he
    have:=beq_iff_eq.1 he
    omega
   ·omega
end Cae
namespace Go.Proofs.YtledlfbbebodgaaGreatDoor
open Go.Vc Go.Proofs Go.RowKit Cae
attribute [local irreducible] wpL callK valK unitK runK Fun Sl Vc.Own vc vcOps opK pureK
def idxAnyR_ren:Go.Shelf.Ren:=⟨fun|153=>50|152=>80|226=>81|227=>82|228=>83|137=>122|119=>123|224=>124|225=>125|217=>158|266=>178|n=>n,fun|9=>9|3=>3|4=>4|5=>5|21=>21|117=>161|116=>160|0=>0|46=>103|124=>207|n=>n,fun|n=>n⟩
theorem idxAnyR:Go.Proofs.Lays.n153 Tryz.prog idxAnyR_ren:={
 mixed:=by kernel_rfl
 f119:=Tryz.func123.trans (congrArg some (by kernel_rfl))
 f137:=Tryz.func122.trans (congrArg some (by kernel_rfl))
 f152:=Tryz.func80.trans (congrArg some (by kernel_rfl))
 f153:=Tryz.func50.trans (congrArg some (by kernel_rfl))
 f217:=Tryz.func158.trans (congrArg some (by kernel_rfl))
 f224:=Tryz.func124.trans (congrArg some (by kernel_rfl))
 f225:=Tryz.func125.trans (congrArg some (by kernel_rfl))
 f226:=Tryz.func81.trans (congrArg some (by kernel_rfl))
 f227:=Tryz.func82.trans (congrArg some (by kernel_rfl))
 f228:=Tryz.func83.trans (congrArg some (by kernel_rfl))
 f266:=Tryz.func178.trans (congrArg some (by kernel_rfl))
 t0:=Tryz.underlying0
 a0:=Tryz.isAgg0
 z0:=Tryz.sizeOf0
 v0:=Tryz.zeroValue0
 t3:=Tryz.underlying3
 a3:=Tryz.isAgg3
 z3:=Tryz.sizeOf3
 v3:=Tryz.zeroValue3
 t4:=Tryz.underlying4
 a4:=Tryz.isAgg4
 z4:=Tryz.sizeOf4
 v4:=Tryz.zeroValue4
 t5:=Tryz.underlying5
 a5:=Tryz.isAgg5
 z5:=Tryz.sizeOf5
 v5:=Tryz.zeroValue5
 t9:=Tryz.underlying9
 a9:=Tryz.isAgg9
 z9:=Tryz.sizeOf9
 v9:=Tryz.zeroValue9
 t21:=Tryz.underlying21
 a21:=Tryz.isAgg21
 z21:=Tryz.sizeOf21
 v21:=Tryz.zeroValue21
 t46:=Tryz.underlying103
 a46:=Tryz.isAgg103
 z46:=Tryz.sizeOf103
 v46:=Tryz.zeroValue103
 t116:=Tryz.underlying160
 a116:=Tryz.isAgg160
 z116:=Tryz.sizeOf160
 t117:=Tryz.underlying161
 a117:=Tryz.isAgg161
 z117:=Tryz.sizeOf161
 v117:=Tryz.zeroValue161
 t124:=Tryz.underlying207
 a124:=Tryz.isAgg207
 z124:=Tryz.sizeOf207
 v124:=Tryz.zeroValue207 }
theorem idxAny_c (s cs:List UInt8)(w:World)(h8:8<s.length)(hs:s.length≤1000000)(h2:2≤cs.length)(hcs:cs.length≤1000000)(hac:∀(j:Nat) b,cs[j]?=some b→b.toNat<128) :
  Fun Tryz.prog 50 [str s,str cs] w fun r w'=>r=.int .i64 (Lib.indexAny s cs)∧Below w.heap.size w w':=by
 refine fun_of_calls Tryz.func50 (by kernel_rfl) (by kernel_rfl) ?_;have hz:=Go.zero_of_info (P:=Tryz.prog) (t:=idxAnyR_ren.t 116) (v:=.agg (Array.replicate 256 (.bool false))) (n:=256) (by kernel_rfl)
 refine Calls.mono (Any.strings_IndexAny_long idxAnyR hz.1 hz.2 ⟨s.toArray⟩ ⟨cs.toArray⟩ w (by show 2≤cs.toArray.size;simp;omega) (by show 8<s.toArray.size;simp;omega) (by show s.toArray.size<_;simp;omega) (by show cs.toArray.size<_;simp;omega) hac) ?_;rintro e w' ⟨rfl,rfl⟩;refine⟨_,rfl,rfl,?_⟩;exact((Below.refl w.heap.size w).alloc (Nat.le_refl _) _).alloc (by simp) _
theorem hasAny_c (s:List UInt8)(w:World)(h8:8<s.length)(hs:s.length≤1000000)(h:(43:UInt8)∈s∨(123:UInt8)∈s) :
  Fun Tryz.prog 27 [str s,str [123,43]] w fun r w'=>r=.bool true∧Below w.heap.size w w':=by
 have hpos:0≤Lib.indexAny s [123,43]:=by
  rcases h with h|h
  ·exact Cae.indexAny_has s _ 43 h (by decide)
  ·exact Cae.indexAny_has s _ 123 h (by decide)
 refine fun_of_vc Tryz.func27 rfl (by kernel_rfl) [4] rfl ?_;push_cast -dsimp(maxSteps:=4000000) [Tryz.ntmps27];refine callK_of (idxAny_c s [123,43] w h8 hs (by decide) (by decide) ?_) ?_
 ·intro j b hj;match j,hj with
  | 0,e=>cases e;decide
  | 1,e=>cases e;decide
 rintro _ w1 ⟨rfl,hb1⟩;push_cast -dsimp[hpos];exact hb1
end Go.Proofs.YtledlfbbebodgaaGreatDoor
end
section
namespace Go.Proofs.YtledlfbbebodgaaGreatDoor
open Go.Vc Go.Proofs Go.RowKit Cae
attribute [local irreducible] wpL callK valK unitK runK Fun Sl Vc.Own vc vcOps opK pureK
def encIn (x:I3):List Value:=[.int .i64 x.op,.int .i64 x.a,.int .i64 x.b]
def elV:List Value→Value
 | [v]=>v
 | cs=>.agg cs.toArray
theorem setsIndex_c {α:Type}(R:List Value→α→Prop)(g:FuncId)(cap:List Value)(f:α→Bool)(l:List α)(hl:l.length<1000000000)(X:Nat→Prop)(v:Value)(w:World)(hv:Sl X 1 R w v l)
  (hf:∀x∈l,∀cs,R cs x→cs.length=1→∀w',Below w.heap.size w w'→Fun Tryz.prog g (elV cs::cap) w' fun r w''=>r=.bool (f x)∧Below w'.heap.size w' w'') :
  Fun Tryz.prog 118 [v,.func (.func g) #[] cap.toArray] w fun r w'=>(∃n:Int,r=.int .i64 n∧(0≤n↔l.any f=true))∧Below w.heap.size w w':=by
 obtain⟨a,c,rfl,hc⟩:=hv.shape;refine fun_of_vc Tryz.func118 rfl (by kernel_rfl) [4] rfl ?_;push_cast -dsimp(maxSteps:=4000000) [Tryz.ntmps118];refine wpL_loop [4,5,8,9,10,11,12,13,14,15,16,17,18] (fun z wx=>∃(i:Nat),z 8=.int .i64 i∧i≤l.length∧(∀x∈l.take i,f x=false)∧Below w.heap.size w wx) (fun z _=>l.length-(intOf (z 8)).toNat) ?_ ?_
 ·exact⟨0,rfl,Nat.zero_le _,by simp,Below.refl _ _⟩
 ·intro z wx hI;obtain⟨i,h8,hi,hok,hb⟩:=hI;push_cast -dsimp[h8];refine⟨fun hlt=>?_,fun hge=>?_⟩
  ·obtain⟨x,hx,hxm,hd,ht⟩:=lt_get (l:=l) (i:=i) (by omega);obtain⟨b,o,cs,ha,hX,hk,hcell,hR⟩:=(hv.below hb).getR hx;subst ha;obtain⟨u,rfl⟩:∃u,cs=[u]:=(match cs,hk with|[u],_=>⟨u,rfl⟩);have c0:wx.cell? ⟨b,o+i,none⟩=some u:=(by simpa using hcell 0 u rfl);push_cast -dsimp[c0];refine⟨⟨by omega,by omega⟩,?_⟩;refine callK_of (hf x hxm _ hR rfl wx hb) ?_;rintro _ w1 ⟨rfl,hb1⟩
   have hB1:=hb.trans (hb1.mono hb.size);push_cast -dsimp[condK_b];refine⟨fun hyes=>?_,fun hno=>?_⟩
   ·exact⟨⟨i,rfl,⟨fun _=>List.any_eq_true.2 ⟨x,hxm,hyes⟩,fun _=>by omega⟩⟩,hB1⟩
   ·refine⟨⟨by omega,by omega⟩,⟨i+1,rfl,by omega,?_,hB1⟩,by rw[h8];simp only[intOf];omega⟩;intro y hy;rw[ht,List.mem_append,List.mem_singleton]at hy;rcases hy with hy|rfl
    ·exact hok y hy
    ·exact hno
  ·refine⟨⟨-1,rfl,?_⟩,hb⟩;rw[List.take_of_length_le (by omega)]at hok;constructor
   ·intro h;omega
   ·intro h;obtain⟨x,hx,hn⟩:=List.any_eq_true.1 h;rw[hok x hx]at hn;cases hn
theorem setsContains_c {α:Type}(R:List Value→α→Prop)(g:FuncId)(cap:List Value)(f:α→Bool)(l:List α)(hl:l.length<1000000000)(X:Nat→Prop)(v:Value)(w:World)(hv:Sl X 1 R w v l)
  (hf:∀x∈l,∀cs,R cs x→cs.length=1→∀w',Below w.heap.size w w'→Fun Tryz.prog g (elV cs::cap) w' fun r w''=>r=.bool (f x)∧Below w'.heap.size w' w'') :
  Fun Tryz.prog 87 [v,.func (.func g) #[] cap.toArray] w fun r w'=>r=.bool (l.any f)∧Below w.heap.size w w':=by
 refine fun_of_vc Tryz.func87 rfl (by kernel_rfl) [4] rfl ?_;push_cast -dsimp(maxSteps:=4000000) [Tryz.ntmps87];refine callK_of (setsIndex_c R g cap f l hl X v w hv hf) ?_;rintro r w1 ⟨⟨n,rfl,hn⟩,hb⟩;push_cast -dsimp;refine⟨?_,hb⟩;congr 1;cases h:l.any f with
 | true=>rw[h]at hn;exact decide_eq_true (hn.2 rfl)
 | false=>rw[h]at hn;exact decide_eq_false (fun h0=>by have:=hn.1 h0;cases this)
theorem insIndex_c {α:Type}(R:List Value→α→Prop)(g:FuncId)(cap:List Value)(f:α→Bool)(l:List α)(hl:l.length<1000000000)(X:Nat→Prop)(v:Value)(w:World)(hv:Sl X 3 R w v l)
  (hf:∀x∈l,∀cs,R cs x→cs.length=3→∀w',Below w.heap.size w w'→Fun Tryz.prog g (elV cs::cap) w' fun r w''=>r=.bool (f x)∧Below w'.heap.size w' w'') :
  Fun Tryz.prog 126 [v,.func (.func g) #[] cap.toArray] w fun r w'=>(∃n:Int,r=.int .i64 n∧(0≤n↔l.any f=true))∧Below w.heap.size w w':=by
 obtain⟨a,c,rfl,hc⟩:=hv.shape;refine fun_of_vc Tryz.func126 rfl (by kernel_rfl) [4] rfl ?_;push_cast -dsimp(maxSteps:=4000000) [Tryz.ntmps126];refine wpL_loop [4,5,8,9,10,11,12,13,14,15,16,17,18] (fun z wx=>∃(i:Nat),z 8=.int .i64 i∧i≤l.length∧(∀x∈l.take i,f x=false)∧Below w.heap.size w wx) (fun z _=>l.length-(intOf (z 8)).toNat) ?_ ?_
 ·exact⟨0,rfl,Nat.zero_le _,by simp,Below.refl _ _⟩
 ·intro z wx hI;obtain⟨i,h8,hi,hok,hb⟩:=hI;push_cast -dsimp[h8];refine⟨fun hlt=>?_,fun hge=>?_⟩
  ·obtain⟨x,hx,hxm,hd,ht⟩:=lt_get (l:=l) (i:=i) (by omega);obtain⟨b,o,cs,ha,hX,hk,hcell,hR⟩:=(hv.below hb).getR hx;subst ha;obtain⟨u0,u1,u2,rfl⟩:∃u0 u1 u2,cs=[u0,u1,u2]:=(match cs,hk with|[u0,u1,u2],_=>⟨u0,u1,u2,rfl⟩);have c0:cellsAt wx ⟨b,o+i*3,none⟩ 0 3=some [u0,u1,u2]:=(cellsAt_of [u0,u1,u2] 0 (fun j u hu=>by simpa using hcell j u hu));push_cast -dsimp[c0];refine⟨⟨by omega,by omega⟩,?_⟩
   refine callK_of (hf x hxm _ hR rfl wx hb) ?_;rintro _ w1 ⟨rfl,hb1⟩;have hB1:=hb.trans (hb1.mono hb.size);push_cast -dsimp[condK_b];refine⟨fun hyes=>?_,fun hno=>?_⟩
   ·exact⟨⟨i,rfl,⟨fun _=>List.any_eq_true.2 ⟨x,hxm,hyes⟩,fun _=>by omega⟩⟩,hB1⟩
   ·refine⟨⟨by omega,by omega⟩,⟨i+1,rfl,by omega,?_,hB1⟩,by rw[h8];simp only[intOf];omega⟩;intro y hy;rw[ht,List.mem_append,List.mem_singleton]at hy;rcases hy with hy|rfl
    ·exact hok y hy
    ·exact hno
  ·refine⟨⟨-1,rfl,?_⟩,hb⟩;rw[List.take_of_length_le (by omega)]at hok;constructor
   ·intro h;omega
   ·intro h;obtain⟨x,hx,hn⟩:=List.any_eq_true.1 h;rw[hok x hx]at hn;cases hn
theorem insContains_c {α:Type}(R:List Value→α→Prop)(g:FuncId)(cap:List Value)(f:α→Bool)(l:List α)(hl:l.length<1000000000)(X:Nat→Prop)(v:Value)(w:World)(hv:Sl X 3 R w v l)
  (hf:∀x∈l,∀cs,R cs x→cs.length=3→∀w',Below w.heap.size w w'→Fun Tryz.prog g (elV cs::cap) w' fun r w''=>r=.bool (f x)∧Below w'.heap.size w' w'') :
  Fun Tryz.prog 84 [v,.func (.func g) #[] cap.toArray] w fun r w'=>r=.bool (l.any f)∧Below w.heap.size w w':=by
 refine fun_of_vc Tryz.func84 rfl (by kernel_rfl) [4] rfl ?_;push_cast -dsimp(maxSteps:=4000000) [Tryz.ntmps84];refine callK_of (insIndex_c R g cap f l hl X v w hv hf) ?_;rintro r w1 ⟨⟨n,rfl,hn⟩,hb⟩;push_cast -dsimp;refine⟨?_,hb⟩;congr 1;cases h:l.any f with
 | true=>rw[h]at hn;exact decide_eq_true (hn.2 rfl)
 | false=>rw[h]at hn;exact decide_eq_false (fun h0=>by have:=hn.1 h0;cases this)
def SetR (X:Nat→Prop)(w:World):List Value→List Rg→Prop:=fun cs s=>∃u,cs=[u]∧Sl X 2 (En encR) w u s
def SetsV (X:Nat→Prop)(w:World)(v:Value)(l:List (List Rg)):Prop:=Sl X 1 (SetR X w) w v l
def CodeV (X:Nat→Prop)(w:World)(v:Value)(c:CodeP):Prop:=∃sv iv,v=.agg #[sv,iv]∧SetsV X w sv c.sets∧Sl X 3 (En encIn) w iv c.ins
theorem SetR.mono {X X':Nat→Prop}{w w':World}{cs:List Value}{s:List Rg}(h:SetR X w cs s)(hs:∀b,¬X b→b<w.heap.size→w'.heap[b]?=w.heap[b]?)(hX:∀b,X' b→X b):SetR X' w' cs s:=by
 obtain⟨u,rfl,h⟩:=h;exact⟨u,rfl,h.mono hs (fun _ _ _ h=>h) hX⟩
theorem SetsV.mono {X X':Nat→Prop}{w w':World}{v:Value}{l:List (List Rg)}(h:SetsV X w v l)(hs:∀b,¬X b→b<w.heap.size→w'.heap[b]?=w.heap[b]?)(hX:∀b,X' b→X b):SetsV X' w' v l :=
 Sl.mono h hs (fun _ _ _ h=>h.mono hs hX) hX
theorem CodeV.mono {X X':Nat→Prop}{w w':World}{v:Value}{c:CodeP}(h:CodeV X w v c)(hs:∀b,¬X b→b<w.heap.size→w'.heap[b]?=w.heap[b]?)(hX:∀b,X' b→X b):CodeV X' w' v c:=by
 obtain⟨sv,iv,rfl,h1,h2⟩:=h;exact⟨sv,iv,rfl,h1.mono hs hX,h2.mono hs (fun _ _ _ h=>h) hX⟩
theorem SetsV.below {X:Nat→Prop}{w w':World}{v:Value}{l:List (List Rg)}(h:SetsV X w v l)(hb:Below w.heap.size w w'):SetsV X w' v l:=h.mono (fun b _ hlt=>hb.block b hlt) (fun _ h=>h)
theorem CodeV.below {X:Nat→Prop}{w w':World}{v:Value}{c:CodeP}(h:CodeV X w v c)(hb:Below w.heap.size w w'):CodeV X w' v c:=h.mono (fun b _ hlt=>hb.block b hlt) (fun _ h=>h)
theorem CodeV.kept {X Y:Nat→Prop}{w w':World}{v:Value}{c:CodeP}(h:CodeV X w v c)(hb:Kept Y w w')(hY:∀i,Y i→X i):CodeV X w' v c:=h.mono (fun b hx hlt=>hb.block b hlt fun hh=>hx (hY b hh)) (fun _ h=>h)
theorem rightAt_c (k n:Int)(b:Nat)(w:World)(hn:w.cell? ⟨b,0,none⟩=some (.int .i64 n)) :
  Fun Tryz.prog 127 [.int .i64 k,.pointer (some ⟨b,0,none⟩)] w fun r w'=>r=.bool (decide (0≤k∧k<n))∧w'=w:=by
 refine fun_of_vc Tryz.func127 rfl (by kernel_rfl) [3] rfl ?_;push_cast -dsimp(maxSteps:=4000000) [Tryz.ntmps127];push_cast -dsimp[hn];constructor
 ·intro h;simp[h]
 ·intro h;simp[h]
theorem right_c (x:I3)(sets n:Int)(w:World) :
  Fun Tryz.prog 86 [.agg #[.int .i64 x.op,.int .i64 x.a,.int .i64 x.b],.int .i64 sets,.int .i64 n] w fun r w'=>r=.bool (insRight x sets n)∧Below w.heap.size w w':=by
 refine fun_of_vc Tryz.func86 rfl (by kernel_rfl) [6] rfl ?_;push_cast -dsimp(maxSteps:=4000000) [Tryz.ntmps86];refine boxK_of ?_;intro w1 hw1;push_cast -dsimp;refine boxK_of ?_;intro w2 hw2;have hb:Below w.heap.size w w2:=hw1.below.trans (hw2.below.mono (by have:=hw1.size;omega))
 have g:∀{j u},[Value.int .i64 x.op,.int .i64 x.a,.int .i64 x.b][j]?=some u→w2.cell? ⟨w.heap.size,j,none⟩=some u:=fun {j u} h=>(hw2.below.cell (by have:=hw1.size;show w.heap.size<_;omega)).trans (hw1.cell h);have c0:w2.cell? ⟨w.heap.size,0,none⟩=some (.int .i64 x.op):=g rfl;have c1:w2.cell? ⟨w.heap.size,1,none⟩=some (.int .i64 x.a):=g rfl
 have c2:w2.cell? ⟨w.heap.size,2,none⟩=some (.int .i64 x.b):=g rfl;have cn:w2.cell? ⟨w1.heap.size,0,none⟩=some (.int .i64 n):=hw2.cell0;push_cast -dsimp[c0,c1,c2];unfold insRight;refine⟨fun h1=>?_,fun h1=>⟨fun h2=>?_,fun h2=>⟨fun h3=>?_,fun h3=>?_⟩⟩⟩
 ·rw[if_pos h1]
  repeat' first|apply And.intro|intro _
  all_goals first|exact hb|(congr 1;rw[decide_eq_decide];omega)|(congr 1;exact(decide_eq_false (by omega)).symm)|(congr 1;exact(decide_eq_true (by omega)).symm)|omega
 ·rw[if_neg h1,if_pos h2];refine callK_of (rightAt_c _ n _ w2 cn) ?_;rintro _ w3 ⟨rfl,hw⟩;subst hw;push_cast -dsimp[c1,c2];refine⟨fun ha=>?_,fun ha=>⟨by congr 1;exact(decide_eq_false (by omega)).symm,hb⟩⟩;refine callK_of (rightAt_c _ n _ w3 cn) ?_;rintro _ w4 ⟨rfl,hw⟩;subst hw;push_cast -dsimp;exact⟨by congr 1;rw[decide_eq_decide];omega,hb⟩
 ·rw[if_neg h1,if_neg h2,if_pos h3];refine callK_of (rightAt_c _ n _ w2 cn) ?_;rintro _ w3 ⟨rfl,hw⟩;subst hw;push_cast -dsimp[c1,c2]
  repeat' first|apply And.intro|intro _
  all_goals first|exact hb|(congr 1;rw[decide_eq_decide];omega)|(congr 1;exact(decide_eq_false (by omega)).symm)|(congr 1;exact(decide_eq_true (by omega)).symm)|omega
 ·rw[if_neg h1,if_neg h2,if_neg h3];refine⟨fun h4=>?_,fun h4=>⟨fun h5=>?_,fun h5=>?_⟩⟩
  ·rw[if_pos (.inl h4)]
   repeat' first|apply And.intro|intro _
   all_goals first|exact hb|(congr 1;rw[decide_eq_decide];omega)|(congr 1;exact(decide_eq_false (by omega)).symm)|(congr 1;exact(decide_eq_true (by omega)).symm)|omega
  ·rw[if_pos (.inr h5)]
   repeat' first|apply And.intro|intro _
   all_goals first|exact hb|(congr 1;rw[decide_eq_decide];omega)|(congr 1;exact(decide_eq_false (by omega)).symm)|(congr 1;exact(decide_eq_true (by omega)).symm)|omega
  ·rw[if_neg (by omega)];exact⟨rfl,hb⟩
theorem rightIns_c (x:I3)(bc bn:Nat)(a:Option Addr)(m cp:Nat)(n:Int)(w:World)(hc:w.cell? ⟨bc,0,none⟩=some (.slice a m cp))(hn:w.cell? ⟨bn,0,none⟩=some (.int .i64 n)) :
  Fun Tryz.prog 85 [.agg #[.int .i64 x.op,.int .i64 x.a,.int .i64 x.b],.pointer (some ⟨bc,0,none⟩),.pointer (some ⟨bn,0,none⟩)] w fun r w'=>r=.bool (!insRight x m n)∧Below w.heap.size w w':=by
 refine fun_of_vc Tryz.func85 rfl (by kernel_rfl) [4] rfl ?_;push_cast -dsimp(maxSteps:=4000000) [Tryz.ntmps85];refine boxK_of ?_;intro w1 hw1;have d0:cellsAt w1 ⟨w.heap.size,0,none⟩ 0 3=some [.int .i64 x.op,.int .i64 x.a,.int .i64 x.b]:=hw1.blk.cellsAt;have dc:w1.cell? ⟨bc,0,none⟩=some (.slice a m cp):=(Kept.new hw1 (X:=fun _=>False)).cell hc id
 have dn:w1.cell? ⟨bn,0,none⟩=some (.int .i64 n):=(Kept.new hw1 (X:=fun _=>False)).cell hn id;push_cast -dsimp[d0,dc,dn];refine callK_of (right_c x m n w1) ?_;rintro _ w2 ⟨rfl,hb2⟩;push_cast -dsimp;exact hw1.below.trans (hb2.mono (by have:=hw1.size;omega))
theorem rightSet_c (s:List Rg)(hs:s.length<1000000000)(X:Nat→Prop)(v:Value)(w:World)(hv:Sl X 2 (En encR) w v s) :
  Fun Tryz.prog 88 [v] w fun r w'=>r=.bool (!setRight (-2) s)∧Below w.heap.size w w':=by
 refine fun_of_vc Tryz.func88 rfl (by kernel_rfl) [2] rfl ?_;push_cast -dsimp(maxSteps:=4000000) [Tryz.ntmps88];refine callK_of (setRight_c s hs X v w hv) ?_;rintro _ w1 ⟨rfl,hb⟩;push_cast -dsimp;exact hb
def SetsLen (c:CodeP):Prop:=∀s∈c.sets,s.length<1000000000
theorem any_not {α:Type}(l:List α)(f:α→Bool):(!(l.any fun x=>!f x))=l.all f:=by
 induction l with
 | nil=>rfl
 | cons x l ih=>simp only[List.any_cons,List.all_cons,Bool.not_or,Bool.not_not,ih]
theorem Right_c (c:CodeP)(hl:SetsLen c)(hi:c.ins.length<1000000000)(hs:c.sets.length<1000000000)(X:Nat→Prop)(v:Value)(w:World)(hv:CodeV X w v c) :
  Fun Tryz.prog 51 [v] w fun r w'=>r=.bool (codeRight c)∧Below w.heap.size w w':=by
 obtain⟨sv,iv,rfl,hsv,hiv⟩:=hv;obtain⟨a1,c1,rfl,hc1⟩:=hsv.shape;obtain⟨a2,c2,rfl,hc2⟩:=hiv.shape;refine fun_of_vc Tryz.func51 rfl (by kernel_rfl) [2] rfl ?_;push_cast -dsimp(maxSteps:=4000000) [Tryz.ntmps51];refine boxK_of ?_;intro w1 hw1;have d0:w1.cell? ⟨w.heap.size,0,none⟩=some (.slice a1 c.sets.length c1):=hw1.cell rfl
 have d1:w1.cell? ⟨w.heap.size,1,none⟩=some (.slice a2 c.ins.length c2):=hw1.cell rfl;push_cast -dsimp[d0,d1];refine allocK (z:=[.int .i64 0]) (by kernel_rfl) ?_;intro w2 hw2;push_cast -dsimp;refine storeK_of hw2.blk (by simp) rfl ?_;intro w3 hw3
 have hb3:Below w.heap.size w w3:=hw1.below.trans ((hw2.below.mono (by have:=hw1.size;omega)).trans (hw3.kept.below (by have:=hw1.size;have:=hw2.size;omega) (fun _ h=>by have:=hw1.size;omega)));have e0:w3.cell? ⟨w.heap.size,0,none⟩=some (.slice a1 c.sets.length c1):=hw3.kept.cell ((Kept.new hw2 (X:=fun _=>False)).cell d0 id) (by have:=hw1.size;show ¬w.heap.size=w1.heap.size;omega)
 have e1:w3.cell? ⟨w.heap.size,1,none⟩=some (.slice a2 c.ins.length c2):=hw3.kept.cell ((Kept.new hw2 (X:=fun _=>False)).cell d1 id) (by have:=hw1.size;show ¬w.heap.size=w1.heap.size;omega);have en:w3.cell? ⟨w1.heap.size,0,none⟩=some (.int .i64 c.ins.length):=hw3.blk.cell rfl;push_cast -dsimp[en,e0,e1]
 have hno:¬(1≤c.ins.length∧c.ins.length≤2000∧c.sets.length≤2000)→Value.bool false=Value.bool (codeRight c):=fun h=>by
  congr 1;unfold codeRight;rw[decide_eq_false h];rfl
 refine⟨fun h1=>⟨fun h2=>⟨fun h3=>⟨⟨by omega,by omega⟩,?_⟩,fun h3=>⟨hno (by omega),hb3⟩⟩,fun h2=>⟨hno (by omega),hb3⟩⟩,fun h1=>⟨hno (by omega),hb3⟩⟩;obtain⟨x,hx,hxm,_,_⟩:=lt_get (l:=c.ins) (i:=c.ins.length-1) (by omega);obtain⟨b,o,rfl,hX,hcell⟩:=(hiv.below hb3).get hx;have c0:w3.cell? ⟨b,o+(c.ins.length-1)*3,none⟩=some (.int .i64 x.op):=hcell 0 _ rfl
 have eidx:((c.ins.length:Int)-1).toNat=c.ins.length-1:=by omega
 push_cast -dsimp[eidx,c0];have hlast:(x.op=1∨x.op=4)→Value.bool false=Value.bool (codeRight c):=fun h=>by
  congr 1;unfold codeRight;rw[hx];dsimp only;rw[decide_eq_false (p:=x.op≠1∧x.op≠4) (by omega)];simp
 refine⟨⟨by omega,by omega⟩,fun ho1=>?_,fun ho1=>⟨hlast (.inl ho1),hb3⟩⟩;push_cast -dsimp[eidx,en,e1,c0];refine⟨⟨by omega,by omega⟩,⟨by omega,by omega⟩,fun ho4=>⟨hlast (.inr ho4),hb3⟩,fun ho4=>?_⟩;have hall:codeRight c=(c.ins.all (fun x=>insRight x c.sets.length c.ins.length) && c.sets.all (setRight (-2))):=by
  unfold codeRight;rw[hx];dsimp only;rw[decide_eq_true (by omega),decide_eq_true ⟨ho1,ho4⟩,Bool.true_and,Bool.true_and]
 refine callK_of (insContains_c (En encIn) 85 [.pointer (some ⟨w.heap.size,0,none⟩),.pointer (some ⟨w1.heap.size,0,none⟩)] (fun x=>!insRight x c.sets.length c.ins.length) c.ins (by omega) X _ w3 (hiv.below hb3) ?_) ?_
 ·rintro y hy cs rfl _ w' hb';exact rightIns_c y w.heap.size w1.heap.size a1 c.sets.length c1 c.ins.length w' ((hb'.cell (World.block_lt_of_cell? w3 _ e0)).trans e0) ((hb'.cell (World.block_lt_of_cell? w3 _ en)).trans en)
 rintro _ w4 ⟨rfl,hb4⟩;have f0:=(hb4.cell (World.block_lt_of_cell? w3 _ e0)).trans e0;have hB4:=hb3.trans (hb4.mono hb3.size);push_cast -dsimp[f0];rw[any_not];cases hA:c.ins.all (fun x=>insRight x c.sets.length c.ins.length) with
 | false =>
  push_cast -dsimp;exact⟨by rw[hall,hA,Bool.false_and],hB4⟩
 | true =>
  push_cast -dsimp[f0];refine callK_of (setsContains_c (SetR X w4) 88 [] (fun x=>!setRight (-2) x) c.sets (by omega) X _ w4 (hsv.below hB4) ?_) ?_
  ·rintro s hsm cs ⟨u,rfl,hu⟩ _ w' hb';exact rightSet_c s (hl s hsm) X u w' (hu.below hb')
  rintro _ w5 ⟨rfl,hb5⟩;push_cast -dsimp;exact⟨by rw[any_not,hall,hA,Bool.true_and],hB4.trans (hb5.mono hB4.size)⟩
def seenV (n:Nat)(q:List Nat):List Value:=(List.range n).map fun i=>.bool (decide (i∈q))
theorem seenV_get {n:Nat}{q:List Nat}{k:Nat}(hk:k<n):(seenV n q)[k]?=some (.bool (decide (k∈q))):=by
 simp[seenV,hk]
theorem seenV_add {n:Nat}{q:List Nat}{k:Nat}(hk:k<n):(seenV n q).set k (.bool true)=seenV n (q++[k]):=by
 apply List.ext_getElem?;intro i;rw[List.getElem?_set];by_cases hi:i<n
 ·rw[seenV_get hi,seenV_get hi];split
  ·rename_i e;subst e;rw[if_pos (by simpa[seenV] using hk)];simp
  ·rename_i e;congr 2;rw[decide_eq_decide];simp only[List.mem_append,List.mem_singleton];constructor
   ·intro h;exact .inl h
   ·rintro(h|h)
    ·exact h
    ·exact absurd h.symm e
 ·have h1:(seenV n q)[i]?=none:=List.getElem?_eq_none (by simp[seenV];omega);have h2:(seenV n (q++[k]))[i]?=none:=List.getElem?_eq_none (by simp[seenV];omega);rw[h1,h2,if_neg (by omega)]
def Th (w:World)(p n:Nat)(q:List Nat)(F:Nat→Prop):Prop :=
 ∃lv sb,Blk w p 122 [lv,.slice (some ⟨sb,0,none⟩) n n]∧Vc.Own 0 3 1 encN w lv q∧Blk w sb 4 (seenV n q)∧p≠sb∧(∀g,lv.ownBlock=some g→g≠p∧g≠sb∧F g)∧F p∧F sb∧Places n q
theorem Th.kept {w w':World}{p n:Nat}{q:List Nat}{F X:Nat→Prop}(h:Th w p n q F)(hk:Kept X w w')(hX:∀k,F k→¬X k):Th w' p n q F:=by
 obtain⟨lv,sb,h1,h2,h3,h4,h5,h6,h7,h8⟩:=h;exact⟨lv,sb,h1.kept hk (hX p h6),h2.keptX hk (fun g hg=>hX g (h5 g hg).2.2),h3.kept hk (hX sb h7),h4,h5,h6,h7,h8⟩
theorem addQ_c (p n:Nat)(q:List Nat)(F:Nat→Prop)(k:Nat)(hk:k<n)(hn:n<1000000)(w:World)(h:Th w p n q F) :
  Fun Tryz.prog 52 [.pointer (some ⟨p,0,none⟩),.int .i64 k] w fun _ w'=>Kept F w w'∧Th w' p n (addQ q k) (fun j=>F j∨w.heap.size≤j):=by
 obtain⟨lv,sb,hp,hl,hs,hne,hg,hFp,hFs,hP⟩:=h;have c0:w.cell? ⟨p,0,none⟩=some lv:=hp.cell rfl;have c1:w.cell? ⟨p,1,none⟩=some (.slice (some ⟨sb,0,none⟩) n n):=hp.cell rfl;have cs:w.cell? ⟨sb,k,none⟩=some (.bool (decide (k∈q))):=hs.cell (seenV_get hk);refine fun_of_vc Tryz.func52 rfl (by kernel_rfl) [] rfl ?_;push_cast -dsimp(maxSteps:=4000000) [Tryz.ntmps52];push_cast -dsimp[c1,cs]
 refine⟨⟨by omega,by omega⟩,?_⟩;have hql:=hP.len;refine⟨fun hkq=>⟨⟨by omega,by omega⟩,?_⟩,fun hkq=>?_⟩
 ·have hkq:k ∉ q:=hkq;refine storeK_of hs (by simp[seenV];exact hk) rfl ?_;intro w1 hw1;rw[seenV_add hk]at hw1;have hp1:=hp.kept hw1.kept (by exact hne);have d0:w1.cell? ⟨p,0,none⟩=some lv:=hp1.cell rfl;have hl1:=hl.keptX hw1.kept (fun g hg'=>(hg g hg').2.1);push_cast -dsimp[d0];refine rowK elI_53 rfl rfl (by omega) ?_;intro w2 hw2;push_cast -dsimp
  have hp2:=hp1.kept (Kept.new hw2 (X:=fun _=>False)) id;have hs2:=hw1.blk.kept (Kept.new hw2 (X:=fun _=>False)) id;have hsz2:=hw2.size;have hsz1:=hw1.size;refine appendK2 (base:=0) [k] (enc:=encN) elI_53 (hl1.new hw2) rfl (fun j u hu=>by simpa using hw2.cell hu) (by simp[encN,Value.oneCell']) (by simp only[List.length_cons,List.length_nil];omega) (Nat.zero_le _) ?_;intro v' w3 ho3 hg3 hn3
  have hgk:Kept (fun j=>lv.ownBlock=some j) w2 w3:=Kept.grown hg3 (fun _ h=>h);have hp3:=hp2.kept hgk (fun h=>(hg _ h).1 rfl);have hs3:=hs2.kept hgk (fun h=>(hg _ h).2.1 rfl);obtain⟨a3,c3,hv3⟩:=ho3.slice;subst hv3;push_cast -dsimp;refine storeK_of hp3 (by simp) rfl ?_;intro w4 hw4;push_cast -dsimp;have k1:Kept F w w1:=hw1.kept.weaken (fun i _ h=>by subst h;exact hFs)
  have k2:Kept F w w2:=k1.trans (Kept.new hw2 (X:=fun _=>False)) (fun _ _ h=>h.elim);have k3:Kept F w w3:=k2.trans hgk (fun i _ h=>(hg i h).2.2);have k4:Kept F w w4:=k3.trans hw4.kept (fun i _ h=>by subst h;exact hFp);have hnew:∀g,(Value.slice a3 (q++[k]).length c3).ownBlock=some g→g≠p∧g≠sb∧(F g∨w.heap.size≤g):=fun g hgg=>by
   rcases hn3 g hgg with h|h
   ·exact⟨(hg g h).1,(hg g h).2.1,.inl (hg g h).2.2⟩
   ·have:=hp.lt;have:=hs.lt;exact⟨by omega,by omega,.inr (by omega)⟩
  have e:addQ q k=q++[k]:=by unfold addQ;rw[if_neg hkq]
  refine⟨k4,_,sb,hw4.blk,?_,by rw[e];exact hs3.kept hw4.kept (fun h=>hne h.symm),hne,hnew,.inl hFp,.inl hFs,hP.add hk⟩;rw[e];exact ho3.keptX hw4.kept (fun g hgg h=>(hnew g hgg).1 h)
 ·have hkq:k∈q:=Classical.byContradiction hkq;have e:addQ q k=q:=by unfold addQ;rw[if_pos hkq]
  refine⟨Kept.refl _ _,?_⟩;rw[e];exact⟨lv,sb,hp,hl,hs,hne,fun g h=>⟨(hg g h).1,(hg g h).2.1,.inl (hg g h).2.2⟩,.inl hFp,.inl hFs,hP⟩
theorem seenV_del {n:Nat}{q:List Nat}{k:Nat}(hk:k<n):(seenV n q).set k (.bool false)=seenV n (q.filter (·≠k)):=by
 apply List.ext_getElem?;intro i;rw[List.getElem?_set];by_cases hi:i<n
 ·rw[seenV_get hi,seenV_get hi];split
  ·rename_i e;subst e;rw[if_pos (by simpa[seenV] using hk)];simp
  ·rename_i e;congr 2;rw[decide_eq_decide];simp only[List.mem_filter,decide_eq_true_eq];constructor
   ·intro h;exact⟨h,fun h=>e h.symm⟩
   ·exact fun h=>h.1
 ·have h1:(seenV n q)[i]?=none:=List.getElem?_eq_none (by simp[seenV];omega);have h2:(seenV n (q.filter (·≠k)))[i]?=none:=List.getElem?_eq_none (by simp[seenV];omega);rw[h1,h2,if_neg (by omega)]
theorem clear_c (p n:Nat)(q:List Nat)(F:Nat→Prop)(hn:n<1000000)(w:World)(h:Th w p n q F) :
  Fun Tryz.prog 54 [.pointer (some ⟨p,0,none⟩)] w fun _ w'=>Kept F w w'∧Th w' p n [] F:=by
 obtain⟨lv,sb,hp,hl,hs,hne,hg,hFp,hFs,hP⟩:=h;have c0:w.cell? ⟨p,0,none⟩=some lv:=hp.cell rfl;obtain⟨a,cp,rfl⟩:=hl.slice;have hql:=hP.len;have hsl:=hl.sl;refine fun_of_vc Tryz.func54 rfl (by kernel_rfl) [] rfl ?_;push_cast -dsimp(maxSteps:=4000000) [Tryz.ntmps54];push_cast -dsimp[c0]
 refine wpL_loop [3,9,10,11,12,13,14,15,16,17,18,19] (fun z wx=>∃(i:Nat),z 9=.int .i64 i∧i≤q.length∧Kept (·=sb) w wx∧Blk wx sb 4 (seenV n (q.drop i))) (fun z _=>q.length-(intOf (z 9)).toNat) ?_ ?_
 ·exact⟨0,rfl,Nat.zero_le _,Kept.refl _ _,hs⟩
 ·intro z wx hI;obtain⟨i,h9,hi,hk,hB⟩:=hI;have hpx:=hp.kept hk hne;have d1:wx.cell? ⟨p,1,none⟩=some (.slice (some ⟨sb,0,none⟩) n n):=hpx.cell rfl;have d0:wx.cell? ⟨p,0,none⟩=some (.slice a q.length cp):=hpx.cell rfl;have hlx:=hl.keptX hk (fun g hg' h=>(hg g hg').2.1 h);push_cast -dsimp[h9];refine⟨fun hlt=>?_,fun hge=>?_⟩
  ·obtain⟨x,hx,hxm,hd,ht⟩:=lt_get (l:=q) (i:=i) (by omega);obtain⟨b,o,rfl,hX,hcell⟩:=hlx.sl.get hx;have cx:wx.cell? ⟨b,o+i,none⟩=some (.int .i64 x):=by simpa using hcell 0 _ rfl
   have hxn:=hP.2 x hxm;push_cast -dsimp[cx,d1];refine⟨⟨by omega,by omega⟩,⟨by omega,by omega⟩,?_⟩;refine storeK_of hB (by simp[seenV];exact hxn) rfl ?_;intro w1 hw1;rw[seenV_del hxn]at hw1;push_cast -dsimp;refine⟨⟨by omega,by omega⟩,⟨i+1,rfl,by omega,hk.trans hw1.kept (fun _ _ h=>h),?_⟩,by rw[h9];simp only[intOf];omega⟩;have e:seenV n ((q.drop i).filter (·≠x))=seenV n (q.drop (i+1)):=by
    have hnd:(q.drop i).Nodup:=hP.1.sublist (List.drop_sublist _ _);rw[hd]at hnd ⊢;rw[List.filter_cons_of_neg (by simp)];have:(q.drop (i+1)).filter (·≠x)=q.drop (i+1):=List.filter_eq_self.2 (fun y hy=>by
     have:=(List.nodup_cons.1 hnd).1;simp only[decide_eq_true_eq];intro h;subst h;exact this hy)
    rw[this]
   rw[e]at hw1;exact hw1.blk
  ·rw[List.drop_eq_nil_of_le (by omega)]at hB;push_cast -dsimp[d0];have hfin:∀a' c',Vc.Own 0 3 1 encN wx (.slice a' 0 c') []→(∀g,(Value.slice a' 0 c').ownBlock=some g→(Value.slice a q.length cp).ownBlock=some g)→∀w2,Put wx w2 p 122 [.slice a' 0 c',.slice (some ⟨sb,0,none⟩) n n]→Kept F w w2∧Th w2 p n [] F:=fun a' c' ho hgg w2 hw2=>by
    refine⟨(hk.weaken (fun i _ h=>by subst h;exact hFs)).trans hw2.kept (fun i _ h=>by subst h;exact hFp),_,sb,hw2.blk,ho.keptX hw2.kept (fun g h1 h2=>(hg g (hgg g h1)).1 h2),hB.kept hw2.kept (fun h=>hne h.symm),hne,fun g h1=>hg g (hgg g h1),hFp,hFs,Places.nil n⟩
   rcases hlx.cut with ⟨rfl,hq0,rfl,rfl⟩|⟨g,rfl,_,hle,hcut⟩
   ·push_cast -dsimp;refine storeK_of hpx (by simp) rfl ?_;intro w2 hw2;push_cast -dsimp;exact hfin none 0 hlx (fun g h=>h) w2 hw2
   ·push_cast -dsimp;refine⟨by omega,storeK_of hpx (by simp) rfl ?_⟩;intro w2 hw2;push_cast -dsimp;exact hfin _ cp (hcut 0 (Nat.zero_le _)) (fun g h=>h) w2 hw2
def Two (D:Nat→Prop)(w:World)(pA pB n:Nat)(q nx:List Nat):Prop :=
 ∃FA FB,Th w pA n q FA∧Th w pB n nx FB∧(∀j,FA j→¬FB j)∧(∀j,FA j→D j∧j<w.heap.size)∧(∀j,FB j→D j∧j<w.heap.size)
theorem Two.swap {D:Nat→Prop}{w:World}{pA pB n:Nat}{q nx:List Nat}(h:Two D w pA pB n q nx):Two D w pB pA n nx q:=by
 obtain⟨FA,FB,h1,h2,h3,h4,h5⟩:=h;exact⟨FB,FA,h2,h1,fun j hb ha=>h3 j ha hb,h5,h4⟩
theorem Two.kept {D X:Nat→Prop}{w w':World}{pA pB n:Nat}{q nx:List Nat}(h:Two D w pA pB n q nx)(hk:Kept X w w')(hX:∀j,D j→j<w.heap.size→¬X j):Two D w' pA pB n q nx:=by
 obtain⟨FA,FB,h1,h2,h3,h4,h5⟩:=h;have hs:=hk.size;exact⟨FA,FB,h1.kept hk (fun j hj=>hX j (h4 j hj).1 (h4 j hj).2),h2.kept hk (fun j hj=>hX j (h5 j hj).1 (h5 j hj).2),h3,fun j hj=>⟨(h4 j hj).1,by have:=(h4 j hj).2;omega⟩,fun j hj=>⟨(h5 j hj).1,by have:=(h5 j hj).2;omega⟩⟩
theorem Two.narrow {D D':Nat→Prop}{w:World}{pA pB n:Nat}{q nx:List Nat}(h:Two D w pA pB n q nx)(hD:∀j,D j→j<w.heap.size→D' j):Two D' w pA pB n q nx:=by
 obtain⟨FA,FB,h1,h2,h3,h4,h5⟩:=h;exact⟨FA,FB,h1,h2,h3,fun j hj=>⟨hD j (h4 j hj).1 (h4 j hj).2,(h4 j hj).2⟩,fun j hj=>⟨hD j (h5 j hj).1 (h5 j hj).2,(h5 j hj).2⟩⟩
theorem Two.places {D:Nat→Prop}{w:World}{pA pB n:Nat}{q nx:List Nat}(h:Two D w pA pB n q nx):Places n q∧Places n nx:=by
 obtain⟨FA,FB,⟨_,_,_,_,_,_,_,_,_,h1⟩,⟨_,_,_,_,_,_,_,_,_,h2⟩,_⟩:=h;exact⟨h1,h2⟩
theorem Two.read {D:Nat→Prop}{w:World}{pA pB n:Nat}{q nx:List Nat}(h:Two D w pA pB n q nx):∃a c,w.cell? ⟨pA,0,none⟩=some (.slice a q.length c)∧Sl (fun _=>False) 1 (En encN) w (.slice a q.length c) q:=by
 obtain⟨FA,FB,⟨lv,sb,hp,hl,_⟩,_⟩:=h;obtain⟨a,c,rfl⟩:=hl.slice;exact⟨a,c,hp.cell rfl,hl.sl.weaken (fun _ h=>h.elim)⟩
theorem twoAdd_c {D:Nat→Prop}{w:World}{pA pB n:Nat}{q nx:List Nat}(h:Two D w pA pB n q nx){k:Nat}(hk:k<n)(hn:n<1000000) :
  Fun Tryz.prog 52 [.pointer (some ⟨pA,0,none⟩),.int .i64 k] w fun _ w'=>Two (fun j=>D j∨w.heap.size≤j) w' pA pB n (addQ q k) nx∧Kept D w w':=by
 obtain⟨FA,FB,h1,h2,h3,h4,h5⟩:=h;refine(addQ_c pA n q FA k hk hn w h1).mono ?_;rintro _ w' ⟨hk',hT⟩;have hs:=hk'.size;refine⟨⟨fun j=>(FA j∨w.heap.size≤j)∧j<w'.heap.size,FB,?_,h2.kept hk' (fun j hj hh=>h3 j hh hj),fun j ⟨hj,_⟩ hb=>?_,fun j ⟨hj,hl⟩=>⟨?_,hl⟩,fun j hj=>⟨.inl (h5 j hj).1,by have:=(h5 j hj).2;omega⟩⟩,hk'.weaken (fun i _ hi=>(h4 i hi).1)⟩
 ·obtain⟨lv,sb,g1,g2,g3,g4,g5,g6,g7,g8⟩:=hT;exact⟨lv,sb,g1,g2,g3,g4,fun g hg=>⟨(g5 g hg).1,(g5 g hg).2.1,(g5 g hg).2.2,(g2.block g hg).2⟩,⟨g6,g1.lt⟩,⟨g7,g3.lt⟩,g8⟩
 ·rcases hj with hj|hj
  ·exact h3 j hj hb
  ·have:=(h5 j hb).2;omega
 ·rcases hj with hj|hj
  ·exact .inl (h4 j hj).1
  ·exact .inr hj
theorem twoClear_c {D:Nat→Prop}{w:World}{pA pB n:Nat}{q nx:List Nat}(h:Two D w pA pB n q nx)(hn:n<1000000) :
  Fun Tryz.prog 54 [.pointer (some ⟨pA,0,none⟩)] w fun _ w'=>Two D w' pA pB n [] nx∧Kept D w w':=by
 obtain⟨FA,FB,h1,h2,h3,h4,h5⟩:=h;refine(clear_c pA n q FA hn w h1).mono ?_;rintro _ w' ⟨hk',hT⟩;have hs:=hk'.size;exact⟨⟨FA,FB,hT,h2.kept hk' (fun j hj hh=>h3 j hh hj),h3,fun j hj=>⟨(h4 j hj).1,by have:=(h4 j hj).2;omega⟩,fun j hj=>⟨(h5 j hj).1,by have:=(h5 j hj).2;omega⟩⟩,hk'.weaken (fun i _ hi=>(h4 i hi).1)⟩
theorem makeK {P:Program}{bt e:TypeId}{bytes:Nat}{z:Value}{n:Nat}{t:Fr}{w:World}{K:VK}{Q:EP}{p}(hE:elI P bt=some (e,1,bytes))(hz:(P.info? e).bind (·.zero)=some z)(hz1:oneCell z=true)(hb:bytes*n≤281474976710656)(hn:n≤140737488355328)
  (kk:∀w',New w w' e (List.replicate n z)→K (.slice (some ⟨w.heap.size,0,none⟩) n n) w'):valK P (Instr.makeSlice bt (.int .i64 n) (.int .i64 n)) t w K Q p:=by
 obtain⟨hu,i,z',hi,hz',hk,rfl,hzs,_,_⟩:=elI_spec hE;rw[hi]at hz;simp only[Option.bind_some]at hz;rw[hz']at hz;cases hz;have:=run_make (P:=P) w bt e i z hu hi hz' .i64 .i64 n n (by omega) (Int.le_refl _) (by rw[←Int.natCast_mul];omega) (by omega);refine valK_of this ?_;simp only[Int.toNat_natCast];refine kk _ ⟨?_⟩;congr 2;have hzc:z.cells=#[z]:=by cases z<;>simp_all [oneCell,Value.cells]
 rw[hzc,hk];apply Array.ext';simp only[madeCells,Array.toList_map,Array.toList_range];apply List.ext_getElem?;intro j;simp only[List.getElem?_map,List.getElem?_replicate,Nat.mul_one];by_cases hj:j<n
 ·simp[hj,Nat.mod_one]
 ·simp[hj]
def MatchV (c:CodeP)(ps:List Int):Value :=
 if codeRight c then .tuple #[.bool (vmatch c ps).1,.int .i64 (vmatch c ps).2,.nilIface] else .tuple #[.bool false,.int .i64 0,.iface 83 (.int .i64 1)]
theorem match_c (c:CodeP)(ps:List Int)(hl:SetsLen c)(hi:c.ins.length<1000000000)(hs:c.sets.length<1000000000)(hps:ps.length<1000000000)(X Xp:Nat→Prop)(v pv:Value)(w:World)(hv:CodeV X w v c)(hpv:Sl Xp 1 (En encZ) w pv ps) :
  Fun Tryz.prog 28 [v,pv] w fun r w'=>r=MatchV c ps∧Below w.heap.size w w':=by
 have hv0:=hv;obtain⟨sv,iv,rfl,hsv,hiv⟩:=hv0;obtain⟨a1,c1,rfl,hc1⟩:=hsv.shape;obtain⟨a2,c2,rfl,hc2⟩:=hiv.shape;obtain⟨a3,c3,rfl,hc3⟩:=hpv.shape;refine fun_of_vc Tryz.func28 rfl (by kernel_rfl) [4,5,6] rfl ?_;push_cast -dsimp(maxSteps:=4000000) [Tryz.ntmps28];refine boxK_of ?_;intro w1 hw1
 have d1:cellsAt w1 ⟨w.heap.size,0,none⟩ 0 2=some [.slice a1 c.sets.length c1,.slice a2 c.ins.length c2]:=hw1.blk.cellsAt;push_cast -dsimp[d1];refine callK_of (Right_c c hl hi hs X _ w1 (hv.below hw1.below)) ?_;rintro _ w2 ⟨rfl,hb2⟩;have hB2:Below w.heap.size w w2:=hw1.below.trans (hb2.mono (by have:=hw1.size;omega));have hsz1:=hw1.size;cases hR:codeRight c with
 | false =>
  push_cast -dsimp;refine⟨?_,hB2⟩;unfold MatchV;rw[hR];rfl
 | true =>
  have hc:=CR.of hR;have hn1:=hc.one;have hn2:=hc.many;have hbox:Blk w2 w.heap.size 70 [.slice a1 c.sets.length c1,.slice a2 c.ins.length c2]:=hw1.blk.below hb2 hw1.blk.lt;have e1:w2.cell? ⟨w.heap.size,1,none⟩=some (.slice a2 c.ins.length c2):=hbox.cell rfl;push_cast -dsimp[e1];have hseen:List.replicate c.ins.length (Value.bool false)=seenV c.ins.length []:=by
   unfold seenV;apply List.ext_getElem?;intro j;simp only[List.getElem?_map,List.getElem?_replicate];by_cases hj:j<c.ins.length
   ·simp[hj]
   ·simp[hj]
  refine wpL_cut [8,9,22,23,24,25,26,27,28,29] (fun z wx=>∃pA pB:Nat,z 8=.pointer (some ⟨pA,0,none⟩)∧z 9=.pointer (some ⟨pB,0,none⟩)∧Two (fun j=>w2.heap.size≤j) wx pA pB c.ins.length [] []∧Kept (fun j=>w2.heap.size≤j) w2 wx) ?_ ?_
  ·refine wpL_tree (.one 0 (.one 4 (.two 1 (.one 2 (.two 3 (.one 5 (.one 6 (.one 7 (.one 8 (.one 9 .done))))) 5 (.one 6 (.two 3 (.one 7 (.one 8 (.one 9 .done))) 7 (.one 3 (.one 8 (.one 9 .done))))))) 5 (.one 6 (.two 1 (.one 2 (.two 3 (.one 7 (.one 8 (.one 9 .done))) 7 (.one 3 (.one 8 (.one 9 .done))))) 7 (.one 1 (.one 2 (.one 3 (.one 8 (.one 9 .done)))))))))) (fun _=>True) mixed (by kernel_rfl) trivial ?_
   push_cast -dsimp;constructor
   ·refine makeK (z:=.bool false) elI_61 (by kernel_rfl) rfl (by omega) (by omega) ?_;intro y1 n1;refine⟨trivial,?_⟩;push_cast -dsimp;constructor
    ·refine boxK_of ?_;intro y2 n2;refine⟨trivial,?_⟩;push_cast -dsimp;refine makeK (z:=.bool false) elI_61 (by kernel_rfl) rfl (by omega) (by omega) ?_;intro y3 n3;refine⟨trivial,?_⟩;push_cast -dsimp;refine boxK_of ?_;intro y4 n4;refine⟨trivial,?_⟩;push_cast -dsimp;have s1:=n1.size;have s2:=n2.size;have s3:=n3.size;have s4:=n4.size;have s0:w2.drew.heap.size=w2.heap.size:=rfl
     have b3:Below y3.heap.size y3 y4:=n4.below;have b2:Below y2.heap.size y2 y4:=n3.below.trans (b3.mono (by omega));have b1:Below y1.heap.size y1 y4:=n2.below.trans (b2.mono (by omega));have b4:Below y4.heap.size y4 y4:=Below.refl _ _
     refine⟨y1.heap.size,y3.heap.size,rfl,rfl,⟨fun j=>j=w2.drew.heap.size∨j=y1.heap.size,fun j=>j=y2.heap.size∨j=y3.heap.size,⟨.slice none 0 0,w2.drew.heap.size,(n2.blk.below b2 n2.blk.lt),Vc.Own.nil (enc:=encN) _ _ (fun _=>rfl) _,by rw[←hseen];exact(n1.blk.below b1 n1.blk.lt),by omega,fun g h=>by simp[Value.ownBlock]at h,.inr rfl,.inl rfl,Places.nil _⟩,⟨.slice none 0 0,y2.heap.size,(n4.blk.below b4 n4.blk.lt),Vc.Own.nil (enc:=encN) _ _ (fun _=>rfl) _,by rw[←hseen];exact(n3.blk.below b3 n3.blk.lt),by omega,fun g h=>by simp[Value.ownBlock]at h,.inr rfl,.inl rfl,Places.nil _⟩,fun j h1 h2=>by omega,fun j h=>by omega,fun j h=>by omega⟩,Kept.of_below ((Below.refl w2.heap.size w2).drew.trans (n1.below.trans (b1.mono (by omega)))) (fun i h _=>h)⟩
    ·refine makeK (z:=.bool false) elI_61 (by kernel_rfl) rfl (by omega) (by omega) ?_;intro y2 n2;refine⟨trivial,?_⟩;push_cast -dsimp;constructor
     ·refine boxK_of ?_;intro y3 n3;refine⟨trivial,?_⟩;push_cast -dsimp;refine boxK_of ?_;intro y4 n4;refine⟨trivial,?_⟩;push_cast -dsimp;have s1:=n1.size;have s2:=n2.size;have s3:=n3.size;have s4:=n4.size;have s0:w2.drew.heap.size=w2.heap.size:=rfl;have b3:Below y3.heap.size y3 y4:=n4.below;have b2:Below y2.heap.size y2 y4:=n3.below.trans (b3.mono (by omega))
      have b1:Below y1.heap.size y1 y4:=n2.below.trans (b2.mono (by omega));have b4:Below y4.heap.size y4 y4:=Below.refl _ _
      refine⟨y2.heap.size,y3.heap.size,rfl,rfl,⟨fun j=>j=w2.drew.heap.size∨j=y2.heap.size,fun j=>j=y1.heap.size∨j=y3.heap.size,⟨.slice none 0 0,w2.drew.heap.size,(n3.blk.below b3 n3.blk.lt),Vc.Own.nil (enc:=encN) _ _ (fun _=>rfl) _,by rw[←hseen];exact(n1.blk.below b1 n1.blk.lt),by omega,fun g h=>by simp[Value.ownBlock]at h,.inr rfl,.inl rfl,Places.nil _⟩,⟨.slice none 0 0,y1.heap.size,(n4.blk.below b4 n4.blk.lt),Vc.Own.nil (enc:=encN) _ _ (fun _=>rfl) _,by rw[←hseen];exact(n2.blk.below b2 n2.blk.lt),by omega,fun g h=>by simp[Value.ownBlock]at h,.inr rfl,.inl rfl,Places.nil _⟩,fun j h1 h2=>by omega,fun j h=>by omega,fun j h=>by omega⟩,Kept.of_below ((Below.refl w2.heap.size w2).drew.trans (n1.below.trans (b1.mono (by omega)))) (fun i h _=>h)⟩
     ·refine boxK_of ?_;intro y3 n3;refine⟨trivial,?_⟩;push_cast -dsimp;refine boxK_of ?_;intro y4 n4;refine⟨trivial,?_⟩;push_cast -dsimp;have s1:=n1.size;have s2:=n2.size;have s3:=n3.size;have s4:=n4.size;have s0:w2.drew.heap.size=w2.heap.size:=rfl;have b3:Below y3.heap.size y3 y4:=n4.below;have b2:Below y2.heap.size y2 y4:=n3.below.trans (b3.mono (by omega))
      have b1:Below y1.heap.size y1 y4:=n2.below.trans (b2.mono (by omega));have b4:Below y4.heap.size y4 y4:=Below.refl _ _
      refine⟨y3.heap.size,y2.heap.size,rfl,rfl,⟨fun j=>j=w2.drew.heap.size∨j=y3.heap.size,fun j=>j=y1.heap.size∨j=y2.heap.size,⟨.slice none 0 0,w2.drew.heap.size,(n4.blk.below b4 n4.blk.lt),Vc.Own.nil (enc:=encN) _ _ (fun _=>rfl) _,by rw[←hseen];exact(n1.blk.below b1 n1.blk.lt),by omega,fun g h=>by simp[Value.ownBlock]at h,.inr rfl,.inl rfl,Places.nil _⟩,⟨.slice none 0 0,y1.heap.size,(n3.blk.below b3 n3.blk.lt),Vc.Own.nil (enc:=encN) _ _ (fun _=>rfl) _,by rw[←hseen];exact(n2.blk.below b2 n2.blk.lt),by omega,fun g h=>by simp[Value.ownBlock]at h,.inr rfl,.inl rfl,Places.nil _⟩,fun j h1 h2=>by omega,fun j h=>by omega,fun j h=>by omega⟩,Kept.of_below ((Below.refl w2.heap.size w2).drew.trans (n1.below.trans (b1.mono (by omega)))) (fun i h _=>h)⟩
   ·refine makeK (z:=.bool false) elI_61 (by kernel_rfl) rfl (by omega) (by omega) ?_;intro y1 n1;refine⟨trivial,?_⟩;push_cast -dsimp;constructor
    ·refine makeK (z:=.bool false) elI_61 (by kernel_rfl) rfl (by omega) (by omega) ?_;intro y2 n2;refine⟨trivial,?_⟩;push_cast -dsimp;constructor
     ·refine boxK_of ?_;intro y3 n3;refine⟨trivial,?_⟩;push_cast -dsimp;refine boxK_of ?_;intro y4 n4;refine⟨trivial,?_⟩;push_cast -dsimp;have s1:=n1.size;have s2:=n2.size;have s3:=n3.size;have s4:=n4.size;have s0:w2.drew.heap.size=w2.heap.size:=rfl;have b3:Below y3.heap.size y3 y4:=n4.below;have b2:Below y2.heap.size y2 y4:=n3.below.trans (b3.mono (by omega))
      have b1:Below y1.heap.size y1 y4:=n2.below.trans (b2.mono (by omega));have b4:Below y4.heap.size y4 y4:=Below.refl _ _
      refine⟨y2.heap.size,y3.heap.size,rfl,rfl,⟨fun j=>j=y1.heap.size∨j=y2.heap.size,fun j=>j=w2.drew.heap.size∨j=y3.heap.size,⟨.slice none 0 0,y1.heap.size,(n3.blk.below b3 n3.blk.lt),Vc.Own.nil (enc:=encN) _ _ (fun _=>rfl) _,by rw[←hseen];exact(n2.blk.below b2 n2.blk.lt),by omega,fun g h=>by simp[Value.ownBlock]at h,.inr rfl,.inl rfl,Places.nil _⟩,⟨.slice none 0 0,w2.drew.heap.size,(n4.blk.below b4 n4.blk.lt),Vc.Own.nil (enc:=encN) _ _ (fun _=>rfl) _,by rw[←hseen];exact(n1.blk.below b1 n1.blk.lt),by omega,fun g h=>by simp[Value.ownBlock]at h,.inr rfl,.inl rfl,Places.nil _⟩,fun j h1 h2=>by omega,fun j h=>by omega,fun j h=>by omega⟩,Kept.of_below ((Below.refl w2.heap.size w2).drew.trans (n1.below.trans (b1.mono (by omega)))) (fun i h _=>h)⟩
     ·refine boxK_of ?_;intro y3 n3;refine⟨trivial,?_⟩;push_cast -dsimp;refine boxK_of ?_;intro y4 n4;refine⟨trivial,?_⟩;push_cast -dsimp;have s1:=n1.size;have s2:=n2.size;have s3:=n3.size;have s4:=n4.size;have s0:w2.drew.heap.size=w2.heap.size:=rfl;have b3:Below y3.heap.size y3 y4:=n4.below;have b2:Below y2.heap.size y2 y4:=n3.below.trans (b3.mono (by omega))
      have b1:Below y1.heap.size y1 y4:=n2.below.trans (b2.mono (by omega));have b4:Below y4.heap.size y4 y4:=Below.refl _ _
      refine⟨y3.heap.size,y2.heap.size,rfl,rfl,⟨fun j=>j=y1.heap.size∨j=y3.heap.size,fun j=>j=w2.drew.heap.size∨j=y2.heap.size,⟨.slice none 0 0,y1.heap.size,(n4.blk.below b4 n4.blk.lt),Vc.Own.nil (enc:=encN) _ _ (fun _=>rfl) _,by rw[←hseen];exact(n2.blk.below b2 n2.blk.lt),by omega,fun g h=>by simp[Value.ownBlock]at h,.inr rfl,.inl rfl,Places.nil _⟩,⟨.slice none 0 0,w2.drew.heap.size,(n3.blk.below b3 n3.blk.lt),Vc.Own.nil (enc:=encN) _ _ (fun _=>rfl) _,by rw[←hseen];exact(n1.blk.below b1 n1.blk.lt),by omega,fun g h=>by simp[Value.ownBlock]at h,.inr rfl,.inl rfl,Places.nil _⟩,fun j h1 h2=>by omega,fun j h=>by omega,fun j h=>by omega⟩,Kept.of_below ((Below.refl w2.heap.size w2).drew.trans (n1.below.trans (b1.mono (by omega)))) (fun i h _=>h)⟩
    ·refine boxK_of ?_;intro y2 n2;refine⟨trivial,?_⟩;push_cast -dsimp;refine makeK (z:=.bool false) elI_61 (by kernel_rfl) rfl (by omega) (by omega) ?_;intro y3 n3;refine⟨trivial,?_⟩;push_cast -dsimp;refine boxK_of ?_;intro y4 n4;refine⟨trivial,?_⟩;push_cast -dsimp;have s1:=n1.size;have s2:=n2.size;have s3:=n3.size;have s4:=n4.size;have s0:w2.drew.heap.size=w2.heap.size:=rfl
     have b3:Below y3.heap.size y3 y4:=n4.below;have b2:Below y2.heap.size y2 y4:=n3.below.trans (b3.mono (by omega));have b1:Below y1.heap.size y1 y4:=n2.below.trans (b2.mono (by omega));have b4:Below y4.heap.size y4 y4:=Below.refl _ _
     refine⟨y3.heap.size,y1.heap.size,rfl,rfl,⟨fun j=>j=y2.heap.size∨j=y3.heap.size,fun j=>j=w2.drew.heap.size∨j=y1.heap.size,⟨.slice none 0 0,y2.heap.size,(n4.blk.below b4 n4.blk.lt),Vc.Own.nil (enc:=encN) _ _ (fun _=>rfl) _,by rw[←hseen];exact(n3.blk.below b3 n3.blk.lt),by omega,fun g h=>by simp[Value.ownBlock]at h,.inr rfl,.inl rfl,Places.nil _⟩,⟨.slice none 0 0,w2.drew.heap.size,(n2.blk.below b2 n2.blk.lt),Vc.Own.nil (enc:=encN) _ _ (fun _=>rfl) _,by rw[←hseen];exact(n1.blk.below b1 n1.blk.lt),by omega,fun g h=>by simp[Value.ownBlock]at h,.inr rfl,.inl rfl,Places.nil _⟩,fun j h1 h2=>by omega,fun j h=>by omega,fun j h=>by omega⟩,Kept.of_below ((Below.refl w2.heap.size w2).drew.trans (n1.below.trans (b1.mono (by omega)))) (fun i h _=>h)⟩
  intro z w6 hJ;obtain⟨pA0,pB0,h8,h9,hT,k26⟩:=hJ;push_cast -dsimp[h8,h9];refine callK_of (twoAdd_c hT (k:=0) (by omega) (by omega)) ?_;rintro _ w7 ⟨hT7,k67⟩;have k27:Kept (fun j=>w2.heap.size≤j) w2 w7:=k26.trans k67 (fun _ _ h=>h);have s26:=k26.size;have hT7:Two (fun j=>w2.heap.size≤j) w7 pA0 pB0 c.ins.length [0] []:=hT7.narrow (fun j h _=>by omega);clear hT k26 k67 d1 hseen;push_cast -dsimp
  refine wpL_loop [4,5,6,8,9,10,11,12,13,14,32,33,34,35,36,37,38,39,40,41,42,43,44,45,46,47,48,49,50,51,52,53,54,55,56,57,58,59,60,61,62,63,64,65,66,67,68,69,70,71,72,73,74,75,76,77,78,79,80,81,82,83,84,85,86,87,88,89,90,91,92,93,94,95,96,97,98,99,100,101,102,103,104,105,106,107,108,109,110,111,112,113,114,115,116,117,118,119,120,121,122,123,124,125] (fun z wx=>∃(i st pA pB:Nat) (q:List Nat),z 11=.int .i64 i∧z 10=.int .i64 st∧z 8=.pointer (some ⟨pA,0,none⟩)∧z 9=.pointer (some ⟨pB,0,none⟩)∧i≤ps.length∧st≤i*2001 ∧
   outer c (ps.drop i) q st=vmatch c ps∧Two (fun j=>w2.heap.size≤j) wx pA pB c.ins.length q []∧Kept (fun j=>w2.heap.size≤j) w2 wx) (fun z _=>ps.length-(intOf (z 11)).toNat) ?_ ?_
  ·exact⟨0,0,pA0,pB0,[0],rfl,rfl,rfl,rfl,Nat.zero_le _,Nat.le_refl _,rfl,hT7,k27⟩
  ·intro z wx hI;obtain⟨i,st0,pA,pB,q,h11,h10,h8,h9,hip,hst,hout,hT,hk⟩:=hI;push_cast -dsimp[h11,h10,h8,h9];rw[outer_eq c ps i q st0 hip]at hout;generalize hR0:inner c ps[i]? (c.ins.length+1) q 0 [] st0=R0 at hout
   refine wpL_loop [4,5,6,10,12,13,14,34,35,36,37,38,39,40,41,42,43,44,45,46,47,48,49,50,51,52,53,54,55,56,57,58,59,60,61,62,63,64,65,66,67,68,69,70,71,72,73,74,75,76,77,78,79,80,81,82,83,84,85,86,87,88,89,90,91,92,93,94,95,96,97,98,99,100,101,102,103,104,105,106,107,108] (fun z' wy=>∃(k st:Nat) (q' nx:List Nat),z' 12=.int .i64 k∧z' 10=.int .i64 st∧k≤q'.length∧st≤st0+k∧inner c ps[i]? (c.ins.length+1-k) q' k nx st=R0 ∧
    Two (fun j=>w2.heap.size≤j) wy pA pB c.ins.length q' nx∧Kept (fun j=>w2.heap.size≤j) w2 wy) (fun z' _=>c.ins.length+1-(intOf (z' 12)).toNat) ?_ ?_
   ·exact⟨0,st0,q,[],rfl,rfl,Nat.zero_le _,Nat.le_refl _,hR0,hT,hk⟩
   ·intro z' wy hI;obtain⟨k,st,q',nx,h12,h10,hkq,hstk,hin,hT,hk⟩:=hI;obtain⟨al,cl,cA,hqs⟩:=hT.read;have hP:=hT.places;have hql:=hP.1.len;have hboxy:=hbox.kept hk (by have:=hbox.lt;show ¬w2.heap.size≤w.heap.size;omega);have b0:wy.cell? ⟨w.heap.size,0,none⟩=some (.slice a1 c.sets.length c1):=hboxy.cell rfl;have b1:wy.cell? ⟨w.heap.size,1,none⟩=some (.slice a2 c.ins.length c2):=hboxy.cell rfl
    push_cast -dsimp[h12,h10,cA,h8,h9];refine⟨fun hlt=>?_,fun hge=>?_⟩
    ·have hBy:Below w.heap.size w wy:=hB2.trans (hk.below hB2.size (fun _ h=>by have:=hB2.size;omega));have hex:∃(at_:Nat) (x:I3) (bq oq bi oi:Nat),q'[k]?=some at_∧at_<c.ins.length∧c.ins[at_]?=some x∧al=some ⟨bq,oq,none⟩∧a2=some ⟨bi,oi,none⟩∧wy.cell? ⟨bq,oq+k,none⟩=some (.int .i64 at_) ∧
       cellsAt wy ⟨bi,oi+at_*3,none⟩ 0 3=some [.int .i64 x.op,.int .i64 x.a,.int .i64 x.b]:=by
      obtain⟨at_,hat,hatm,_,_⟩:=lt_get (l:=q') (i:=k) (by omega);have hatn:=hP.1.2 at_ hatm;obtain⟨bq,oq,hal,_,hcellq⟩:=hqs.get hat;obtain⟨x,hx,hxm,_,_⟩:=lt_get (l:=c.ins) (i:=at_) hatn;obtain⟨bi,oi,hai,_,hcelli⟩:=(hiv.below hBy).get hx;exact⟨at_,x,bq,oq,bi,oi,hat,hatn,hx,hal,hai,by simpa using hcellq 0 _ rfl,cellsAt_of (encIn x) 0 (fun j u hu=>by simpa using hcelli j u hu)⟩
     refine Exists.elim hex fun at_ hex=>Exists.elim hex fun x hex=>Exists.elim hex fun bq hex=>Exists.elim hex fun oq hex=>Exists.elim hex fun bi hex=>Exists.elim hex fun oi hex=>?_;have hat:=hex.1;have hatn:=hex.2.1;have hx:=hex.2.2.1;have hal:=hex.2.2.2.1;have hai:=hex.2.2.2.2.1;have cq:=hex.2.2.2.2.2.1;have ci:=hex.2.2.2.2.2.2;clear hex;push_cast -dsimp[hal,cq,b1,indexAddrK_at hai,ci]
     obtain⟨f,hf⟩:∃f,c.ins.length+1-k=f+1:=⟨c.ins.length-k,by omega⟩;have hf':c.ins.length+1-(k+1)=f:=by omega
     rw[hf]at hin;have hcase:=insRight_cases (hc.ins at_ x hx);have hnext:=hc.next at_ x hx;refine⟨⟨by omega,by omega⟩,⟨by omega,by omega⟩,⟨by omega,by omega⟩,?_⟩;refine allocK (z:=[.int .i64 0,.int .i64 0,.int .i64 0]) (by kernel_rfl) ?_;intro wz0 hwz0;push_cast -dsimp;refine storeAgg (n:=3) (by kernel_rfl) hwz0.blk rfl (by simp) (by simp[Value.oneCell']) ?_;intro wz hwz
     have hszz:wz.heap.size=wy.heap.size+1:=by rw[hwz.size,hwz0.size]
     have kz:Kept (fun j=>j=wy.heap.size) wy wz:=(Kept.new hwz0).trans hwz.kept (fun _ _ h=>h);have o0:wz.cell? ⟨wy.heap.size,0,none⟩=some (.int .i64 x.op):=hwz.blk.cell rfl;have hBx:Blk wz wy.heap.size 109 [.int .i64 x.op,.int .i64 x.a,.int .i64 x.b]:=hwz.blk
     have hTz:Two (fun j=>w2.heap.size≤j∧j<wy.heap.size) wz pA pB c.ins.length q' nx:=(hT.narrow (fun j h hl=>⟨h,hl⟩)).kept kz (fun j h _ hh=>by omega);have hkz:Kept (fun j=>w2.heap.size≤j) w2 wz:=hk.trans kz (fun i hi h=>by subst h;exact hk.size);have sy:=hk.size;clear hwz hwz0 hT kz;push_cast -dsimp[o0];refine⟨fun h5=>?_,fun h5=>⟨fun h2=>?_,fun h2=>⟨fun h3=>?_,fun h3=>⟨fun h4=>?_,fun h4=>?_⟩⟩⟩⟩
     ·rw[inner_yes hat hx h5]at hin;subst hin;dsimp only at hout;unfold MatchV;rw[hR,←hout];exact⟨rfl,hB2.trans (hkz.below hB2.size (fun _ h=>by have:=hB2.size;omega))⟩
     ·rw[inner_step hat hx h5]at hin;have hr:0≤x.a∧x.a<c.ins.length∧0≤x.b∧x.b<c.ins.length:=by omega
      have ea:x.a=(x.a.toNat:Int):=by omega
      have eb:x.b=(x.b.toNat:Int):=by omega
      have o1:wz.cell? ⟨wy.heap.size,1,none⟩=some (.int .i64 (x.a.toNat:Int)):=by rw[←ea];exact hBx.cell rfl
      push_cast -dsimp[o1];refine callK_of (twoAdd_c hTz (k:=x.a.toNat) (by omega) (by omega)) ?_;rintro _ w5 ⟨hT5,hk5⟩;have hBx5:=hBx.kept hk5 (by omega);have o2:w5.cell? ⟨wy.heap.size,2,none⟩=some (.int .i64 (x.b.toNat:Int)):=by rw[←eb];exact hBx5.cell rfl
      push_cast -dsimp[o2];refine callK_of (twoAdd_c hT5 (k:=x.b.toNat) (by omega) (by omega)) ?_;rintro _ w6 ⟨hT6,hk6⟩;have e1x:(exec1 c ps[i]? x at_ q' nx)=(addQ (addQ q' x.a.toNat) x.b.toNat,nx):=by unfold exec1;rw[if_pos h2]
      rw[e1x]at hin;have sz5:=hk5.size;have hTf:=hT6.narrow (D':=fun j=>w2.heap.size≤j) (fun j h _=>by omega);have hkf:Kept (fun j=>w2.heap.size≤j) w2 w6:=(hkz.trans hk5 (fun _ _ h=>h.1)).trans hk6 (fun i hi h=>by omega);have hlen:q'.length≤(addQ (addQ q' x.a.toNat) x.b.toNat).length:=Nat.le_trans (addQ_len _ _) (addQ_len _ _);push_cast -dsimp
      refine⟨⟨by omega,by omega⟩,⟨k+1,st+1,_,_,by simp,by simp,by omega,by omega,?_,hTf,hkf⟩,by rw[h12];simp only[intOf];omega⟩;rw[hf'];exact hin
     ·rw[inner_step hat hx h5]at hin;have hr:0≤x.a∧x.a<c.ins.length:=by omega
      have ea:x.a=(x.a.toNat:Int):=by omega
      have o1:wz.cell? ⟨wy.heap.size,1,none⟩=some (.int .i64 (x.a.toNat:Int)):=by rw[←ea];exact hBx.cell rfl
      push_cast -dsimp[o1];refine callK_of (twoAdd_c hTz (k:=x.a.toNat) (by omega) (by omega)) ?_;rintro _ w6 ⟨hT5,hk5⟩;have e1x:(exec1 c ps[i]? x at_ q' nx)=(addQ q' x.a.toNat,nx):=by unfold exec1;rw[if_neg h2,if_pos h3]
      rw[e1x]at hin;have hTf:=hT5.narrow (D':=fun j=>w2.heap.size≤j) (fun j h _=>by omega);have hkf:Kept (fun j=>w2.heap.size≤j) w2 w6:=(hkz.trans hk5 (fun _ _ h=>h.1));have hlen:q'.length≤(addQ q' x.a.toNat).length:=addQ_len _ _;push_cast -dsimp;refine⟨⟨by omega,by omega⟩,⟨k+1,st+1,_,_,by simp,by simp,by omega,by omega,?_,hTf,hkf⟩,by rw[h12];simp only[intOf];omega⟩;rw[hf'];exact hin
     ·rw[inner_step hat hx h5]at hin;have hnx:=hnext (.inr h4);refine⟨fun hend=>⟨⟨by omega,by omega⟩,?_⟩,fun hend=>?_⟩
      ·refine callK_of (twoAdd_c hTz (k:=at_+1) (by omega) (by omega)) ?_;rintro _ w6 ⟨hT5,hk5⟩;have e1x:(exec1 c ps[i]? x at_ q' nx)=(addQ q' (at_+1),nx):=by unfold exec1;rw[if_neg h2,if_neg h3,if_pos h4,List.getElem?_eq_none (by omega)];rfl
       rw[e1x]at hin;have hTf:=hT5.narrow (D':=fun j=>w2.heap.size≤j) (fun j h _=>by omega);have hkf:Kept (fun j=>w2.heap.size≤j) w2 w6:=(hkz.trans hk5 (fun _ _ h=>h.1));have hlen:q'.length≤(addQ q' (at_+1)).length:=addQ_len _ _;push_cast -dsimp;refine⟨⟨by omega,by omega⟩,⟨k+1,st+1,_,_,by simp,by simp,by omega,by omega,?_,hTf,hkf⟩,by rw[h12];simp only[intOf];omega⟩;rw[hf'];exact hin
      ·have e1x:(exec1 c ps[i]? x at_ q' nx)=(q',nx):=by unfold exec1;rw[if_neg h2,if_neg h3,if_pos h4,List.getElem?_eq_getElem (show i<ps.length by omega)];rfl
       rw[e1x]at hin;have hTf:=hTz.narrow (D':=fun j=>w2.heap.size≤j) (fun j h _=>h.1);have hkf:=hkz;have hlen:q'.length≤q'.length:=Nat.le_refl _;refine⟨⟨by omega,by omega⟩,⟨k+1,st+1,_,_,by simp,by simp,by omega,by omega,?_,hTf,hkf⟩,by rw[h12];simp only[intOf];omega⟩;rw[hf'];exact hin
     ·rw[inner_step hat hx h5]at hin;have hop:x.op=1∧0≤x.a∧x.a<c.sets.length:=by omega
      refine wpL_draw (fun w'=>Kept (fun _=>False) wz w') mixed (by kernel_rfl) (Kept.refl _ _).drew ?_;have sxn:=hnext (.inl hop.1);have ea:x.a=(x.a.toNat:Int):=by omega
      have lB:∀w',Kept (fun _=>False) wz w'→w'.cell? ⟨w.heap.size,0,none⟩=some (.slice a1 c.sets.length c1):=fun w' hk'=>hk'.cell ((hbox.kept hkz (by have:=hbox.lt;show ¬w2.heap.size≤w.heap.size;omega)).cell rfl) id;have lX:∀w',Kept (fun _=>False) wz w'→w'.cell? ⟨wy.heap.size,1,none⟩=some (.int .i64 (x.a.toNat:Int)):=fun w' hk'=>hk'.cell (by rw[←ea];exact hBx.cell rfl) id
      have kd:Kept (fun _=>False) wz wz.drew:=(Kept.refl _ _).drew;have d1:=lB _ kd;have d2:=lX _ kd;push_cast -dsimp[d1,d2];refine⟨fun hin_i=>⟨fun w'' hC=>by rw[lB w'' hC];exact rfl,fun w'' hC=>by rw[lX w'' hC];exact rfl,?_⟩,fun hout_i=>?_⟩
      ·have hBz:Below w.heap.size w wz:=hB2.trans (hkz.below hB2.size (fun _ h=>by have:=hB2.size;omega));have hex:∃(s:List Rg) (u:Value) (bs os:Nat) (p:Int) (bp op:Nat),c.sets[x.a.toNat]?=some s∧a1=some ⟨bs,os,none⟩∧wz.drew.cell? ⟨bs,os+x.a.toNat,none⟩=some u∧Sl X 2 (En encR) wz.drew u s∧ps[i]?=some p∧a3=some ⟨bp,op,none⟩∧wz.drew.cell? ⟨bp,op+i,none⟩=some (.int .i64 p):=by
        obtain⟨s,hs1,_,_,_⟩:=lt_get (l:=c.sets) (i:=x.a.toNat) (by omega);obtain⟨p,hp1,_,_,_⟩:=lt_get (l:=ps) (i:=i) (by omega);have hsz:Sl X 1 (SetR X wz) wz (.slice a1 c.sets.length c1) c.sets:=hsv.below hBz;obtain⟨bs,os,cs,ha1,_,_,hcs,u,rfl,hu⟩:=hsz.getR hs1;obtain⟨bp,op,ha3,_,hcp⟩:=(hpv.below hBz).get hp1
        exact⟨s,u,bs,os,p,bp,op,hs1,ha1,by simpa using hcs 0 u rfl,hu.below (Below.refl _ _).drew,hp1,ha3,by simpa using hcp 0 _ rfl⟩
       refine Exists.elim hex fun s hex=>Exists.elim hex fun u hex=>Exists.elim hex fun bs hex=>Exists.elim hex fun os hex=>Exists.elim hex fun p hex=>Exists.elim hex fun bp hex=>Exists.elim hex fun op hex=>?_;have hs1:=hex.1;have ha1:=hex.2.1;have cu:=hex.2.2.1;have hu:=hex.2.2.2.1;have hp1:=hex.2.2.2.2.1;have ha3:=hex.2.2.2.2.2.1;have cp:=hex.2.2.2.2.2.2;clear hex
       have hsm:=List.mem_of_getElem? hs1;have lU:∀w',Kept (fun _=>False) wz w'→w'.cell? ⟨bs,os+x.a.toNat,none⟩=some u:=fun w' hk'=>hk'.cell (show wz.cell? _=_ from cu) id;have lP:∀w',Kept (fun _=>False) wz w'→w'.cell? ⟨bp,op+i,none⟩=some (.int .i64 p):=fun w' hk'=>hk'.cell (show wz.cell? _=_ from cp) id;push_cast -dsimp[indexAddrK_at ha1,indexAddrK_at ha3,cu,cp]
       refine⟨⟨by omega,by omega⟩,fun w'' hC=>by rw[lU w'' hC];exact rfl,⟨by omega,by omega⟩,fun w'' hC=>by rw[lP w'' hC];exact rfl,?_⟩;refine callK_of (has_c s (hl s hsm) (hc.set s hsm) p X u wz.drew hu) ?_;rintro _ w6 ⟨rfl,hb6⟩
       have k6:Kept (fun _=>False) wz w6:=kd.trans (Kept.of_below hb6 (X:=fun _=>False) (fun j h1 h2=>absurd h2 (by have:wz.drew.heap.size=wz.heap.size:=rfl;omega))) (fun _ _=>id);have hT6:=hTz.kept k6 (fun _ _ _=>id);have hk6:=hkz.trans k6 (fun _ _ h=>h.elim);have hgs:c.sets.getD x.a.toNat []=s:=by rw[List.getD_eq_getElem?_getD,hs1];rfl
       refine⟨k6,?_⟩;cases hH:hasP s p with
       | true =>
        push_cast -dsimp;refine⟨⟨by omega,by omega⟩,?_⟩;refine callK_of (twoAdd_c hT6.swap (k:=at_+1) (by omega) (by omega)) ?_;rintro _ w7 ⟨hT7,hk7⟩;have e1x:(exec1 c ps[i]? x at_ q' nx)=(q',addQ nx (at_+1)):=by unfold exec1;rw[if_neg h2,if_neg h3,if_neg h4,hp1];dsimp only;rw[hgs,hH,if_pos rfl]
        rw[e1x]at hin;have sz6:=k6.size;have hTf:=hT7.swap.narrow (D':=fun j=>w2.heap.size≤j) (fun j h _=>by omega);have hkf:Kept (fun j=>w2.heap.size≤j) w2 w7:=hk6.trans hk7 (fun _ _ h=>h.1);have hlen:q'.length≤q'.length:=Nat.le_refl _;push_cast -dsimp;refine⟨⟨by omega,by omega⟩,⟨k+1,st+1,_,_,by simp,by simp,by omega,by omega,?_,hTf,hkf⟩,by rw[h12];simp only[intOf];omega⟩;rw[hf'];exact hin
       | false =>
        push_cast -dsimp;have e1x:(exec1 c ps[i]? x at_ q' nx)=(q',nx):=by unfold exec1;rw[if_neg h2,if_neg h3,if_neg h4,hp1];dsimp only;rw[hgs,hH];rfl
        rw[e1x]at hin;have hTf:=hT6.narrow (D':=fun j=>w2.heap.size≤j) (fun j h _=>h.1);have hkf:=hk6;have hlen:q'.length≤q'.length:=Nat.le_refl _;refine⟨⟨by omega,by omega⟩,⟨k+1,st+1,_,_,by simp,by simp,by omega,by omega,?_,hTf,hkf⟩,by rw[h12];simp only[intOf];omega⟩;rw[hf'];exact hin
      ·have e1x:(exec1 c ps[i]? x at_ q' nx)=(q',nx):=by unfold exec1;rw[if_neg h2,if_neg h3,if_neg h4,List.getElem?_eq_none (by omega)]
       rw[e1x]at hin;have hTf:=(hTz.kept kd (fun _ _ _=>id)).narrow (D':=fun j=>w2.heap.size≤j) (fun j h _=>h.1);have hkf:=hkz.trans kd (fun _ _ h=>h.elim);have hlen:q'.length≤q'.length:=Nat.le_refl _;refine⟨⟨by omega,by omega⟩,⟨k+1,st+1,_,_,by simp,by simp,by omega,by omega,?_,hTf,hkf⟩,by rw[h12];simp only[intOf];omega⟩;rw[hf'];exact hin
    ·have hn:q'[k]?=none:=List.getElem?_eq_none (by omega);obtain⟨f,hf⟩:∃f,c.ins.length+1-k=f+1:=⟨c.ins.length-k,by omega⟩;rw[hf,inner_end hn]at hin;subst hin;dsimp only at hout;have hBy:Below w.heap.size w wy:=hB2.trans (hk.below hB2.size (fun _ h=>by have:=hB2.size;omega));have hnil:(ps.length≤i∨nx=[])→Value.tuple #[.bool false,.int .i64 st,.nilIface]=MatchV c ps:=fun h=>by
      rw[if_pos h]at hout;unfold MatchV;rw[hR,←hout];rfl
     refine⟨fun hlt_i=>?_,fun hge_i=>⟨hnil (.inl (by omega)),hBy⟩⟩;refine Exists.elim hT.swap.read fun an hrd=>Exists.elim hrd fun cn hrd=>?_;have cB:=hrd.1;clear hrd;push_cast -dsimp[cB];refine⟨fun h0=>⟨hnil (.inr (List.eq_nil_of_length_eq_zero (by omega))),hBy⟩,fun h0=>?_⟩;have hnx:¬(ps.length≤i∨nx=[]):=by
      rintro(h|h)
      ·omega
      ·subst h;exact h0 rfl
     rw[if_neg hnx]at hout;refine callK_of (twoClear_c hT (by omega)) ?_;rintro _ w7 ⟨hT7,hk7⟩;push_cast -dsimp;exact⟨⟨by omega,by omega⟩,⟨i+1,st,pB,pA,nx,rfl,rfl,rfl,rfl,by omega,by omega,hout,hT7.swap,hk.trans hk7 (fun _ _ h=>h)⟩,by rw[h11];simp only[intOf];omega⟩
def c0P:CodeP:=⟨[[(97,97)]],[⟨1,0,0⟩,⟨2,0,2⟩,⟨5,0,0⟩]⟩
theorem matched_c (w:World):Fun Tryz.prog 23 [] w fun r w'=>r=.bool true∧Below w.heap.size w w':=by
 refine fun_of_vc Tryz.func23 rfl (by kernel_rfl) [0] rfl ?_;push_cast -dsimp(maxSteps:=4000000) [Tryz.ntmps23];push_cast -dsimp;refine rowK elI_41 rfl rfl (by omega) ?_;intro w1 hw1;push_cast -dsimp;refine rowK elI_67 rfl rfl (by omega) ?_;intro w2 hw2;push_cast -dsimp;refine rowK elI_68 rfl rfl (by omega) ?_;intro w3 hw3;push_cast -dsimp
 refine allocK (z:=[.slice none 0 0,.slice none 0 0]) (by kernel_rfl) ?_;intro w4 hw4;push_cast -dsimp;refine storeAgg (n:=2) (by kernel_rfl) hw4.blk rfl (by simp) (by simp[Value.oneCell']) ?_;intro w5 hw5;have c5:cellsAt w5 ⟨w3.heap.size,0,none⟩ 0 2=some [.slice (some ⟨w1.heap.size,0,none⟩) 1 1,.slice (some ⟨w2.heap.size,0,none⟩) 3 3]:=hw5.blk.cellsAt;push_cast -dsimp[c5];have s1:=hw1.size
 have s2:=hw2.size;have s3:=hw3.size;have s4:=hw4.size;have s5:=hw5.size;have o1:=hw1.own (base:=0) (k:=2) (n:=1) (enc:=encR) (l:=[(97,97)]) rfl rfl (fun _=>rfl) (Nat.zero_le _) (by omega);have b25:Below w2.heap.size w2 w5:=hw3.below.trans ((hw4.below.mono (by omega)).trans (hw5.kept.below (by omega) (fun _ h=>by omega)));have b15:Below w1.heap.size w1 w5:=hw2.below.trans (b25.mono (by omega))
 have b35:Below w3.heap.size w3 w5:=hw4.below.trans (hw5.kept.below (by omega) (fun _ h=>by omega));have o3:=hw3.own (base:=0) (k:=3) (n:=3) (enc:=encIn) (l:=[⟨1,0,0⟩,⟨2,0,2⟩,⟨5,0,0⟩]) rfl rfl (fun _=>rfl) (Nat.zero_le _) (by omega);have hsets:Sl (fun _=>False) 1 (SetR (fun _=>False) w5) w5 (.slice (some ⟨w1.heap.size,0,none⟩) 1 1) [[(97,97)]]:=by
  have hset:=o1.sl.below b15;unfold Sl;refine⟨_,_,rfl,by simp,fun i x hx=>?_⟩;have hi:i=0:=by have:=(List.getElem?_eq_some_iff.1 hx).1;simp at this;omega
  subst hi;simp only[List.getElem?_cons_zero,Option.some.injEq]at hx;subst hx;refine⟨w1.heap.size,0,[.slice (some ⟨w.heap.size,0,none⟩) 1 1],rfl,id,rfl,fun j u hu=>?_,_,rfl,hset.weaken (fun _ h=>h.elim)⟩;have hj:j=0:=by have:=(List.getElem?_eq_some_iff.1 hu).1;simp at this;omega
  subst hj;simp only[List.getElem?_cons_zero,Option.some.injEq]at hu;subst hu;exact(b25.cell (by show w1.heap.size<w2.heap.size;omega)).trans (hw2.cell rfl)
 have hcode:CodeV (fun _=>False) w5 (.agg #[.slice (some ⟨w1.heap.size,0,none⟩) 1 1,.slice (some ⟨w2.heap.size,0,none⟩) 3 3]) c0P :=
  ⟨_,_,rfl,hsets,(o3.sl.below b35).weaken (fun _ h=>h.elim)⟩
 have hB5:Below w.heap.size w w5:=hw1.below.trans (b15.mono (by omega));have hl0:SetsLen c0P:=fun s hs=>by simp[c0P]at hs;subst hs;simp
 refine rowK elI_53 rfl rfl (by omega) ?_;intro w6 hw6;have o6:=hw6.own (base:=0) (k:=1) (n:=2) (enc:=encZ) (l:=[97,98]) rfl rfl (fun _=>rfl) (Nat.zero_le _) (by omega);push_cast -dsimp;refine callK_of (match_c c0P [97,98] hl0 (by decide) (by decide) (by decide) _ _ _ _ w6 (hcode.below hw6.below) o6.sl) ?_;rintro _ w7 ⟨rfl,hb7⟩
 have e1:MatchV c0P [97,98]=.tuple #[.bool true,.int .i64 4,.nilIface]:=by rfl
 rw[e1];have c7:cellsAt w7 ⟨w3.heap.size,0,none⟩ 0 2=some [.slice (some ⟨w1.heap.size,0,none⟩) 1 1,.slice (some ⟨w2.heap.size,0,none⟩) 3 3]:=((hw5.blk.below hw6.below hw5.blk.lt).below hb7 (by have:=hw6.size;omega)).cellsAt;push_cast -dsimp[c7];refine rowK elI_53 rfl rfl (by omega) ?_;intro w8 hw8
 have o8:=hw8.own (base:=0) (k:=1) (n:=1) (enc:=encZ) (l:=[98]) rfl rfl (fun _=>rfl) (Nat.zero_le _) (by omega);have b58:Below w5.heap.size w5 w8:=hw6.below.trans ((hb7.mono (by have:=hw6.size;omega)).trans (hw8.below.mono (by have:=hb7.size;have:=hw6.size;omega)));push_cast -dsimp;refine callK_of (match_c c0P [98] hl0 (by decide) (by decide) (by decide) _ _ _ _ w8 (hcode.below b58) o8.sl) ?_
 rintro _ w9 ⟨rfl,hb9⟩;have e2:MatchV c0P [98]=.tuple #[.bool false,.int .i64 1,.nilIface]:=by rfl
 rw[e2];push_cast -dsimp;exact hB5.trans ((b58.mono hB5.size).trans (hb9.mono (Nat.le_trans hB5.size b58.size)))
end Go.Proofs.YtledlfbbebodgaaGreatDoor
end
section
namespace Cae
def rdC (pts:List Int)(back:Bool)(i:Nat):List Int:=if back then (pts.take i).reverse else pts.drop i
def segHi (c:CodeP)(S:Nat→Nat→Prop)(e:Nat):Nat→Nat→Prop
 | 0,m=>m=e
 | t+1,m=>c.ins[m]?=some ⟨2,((m+1:Nat):Int),(e:Int)⟩∧∃m',S (m+1) m'∧segHi c S e t m'
section
variable (has:KindP→Int→Prop) (c:CodeP) (back:Bool)
mutual
def Seg:PatP→Nat→Nat→Prop
 | .one k,a,b=>b=a+1∧∃(i:Nat) (s:List Rg),c.ins[a]?=some ⟨1,(i:Int),0⟩∧c.sets[i]?=some s∧∀p,hasP s p=true↔has k p
 | .any,a,b=>b=a+1∧∃(i:Nat) (s:List Rg),c.ins[a]?=some ⟨1,(i:Int),0⟩∧c.sets[i]?=some s∧∀p,0≤p→p≤1114111→hasP s p=true
 | .edge,a,b=>b=a+1∧c.ins[a]?=some ⟨4,0,0⟩
 | .cat l,a,b=>if back then SegB l a b else SegF l a b
 | .alt l,a,b=>SegA l a b
 | .many x lo hi,a,b=>∃m,iterM (fun a b=>Seg x a b) lo.toNat a m∧if hi<0 then c.ins[m]?=some ⟨2,((m+1:Nat):Int),(b:Int)⟩∧∃e,Seg x (m+1) e∧c.ins[e]?=some ⟨3,(m:Int),0⟩∧b=e+1 else segHi c (fun a b=>Seg x a b) b (hi-lo).toNat m
def SegF:List PatP→Nat→Nat→Prop
 | [],a,b=>a=b
 | x::l,a,b=>∃m,Seg x a m∧SegF l m b
def SegB:List PatP→Nat→Nat→Prop
 | [],a,b=>a=b
 | x::l,a,b=>∃m,SegB l a m∧Seg x m b
def SegA:List PatP→Nat→Nat→Prop
 | [],a,b=>False
 | x::l,a,b=>(l=[]∧Seg x a b)∨(l≠[]∧∃m,c.ins[a]?=some ⟨2,((a+1:Nat):Int),((m+1:Nat):Int)⟩∧Seg x (a+1) m∧c.ins[m]?=some ⟨3,(b:Int),0⟩∧SegA l (m+1) b)
end
end
section
variable {has:KindP→Int→Prop} {c:CodeP} {back:Bool} {pts:List Int}
theorem rd_step {i:Nat}(hi:i≤pts.length):(stepM pts back i=none∧rdC pts back i=[])∨∃j p,stepM pts back i=some (j,p)∧rdC pts back i=p::rdC pts back j:=by
 unfold stepM rdC;cases back with
 | true =>
  simp only[if_true];by_cases h0:i=0
  ·subst h0;exact .inl ⟨by simp,by simp⟩
  ·rw[if_neg h0];obtain⟨k,rfl⟩:∃k,i=k+1:=⟨i-1,by omega⟩;have hk:k<pts.length:=by omega
   refine .inr ⟨k,pts[k],?_,?_⟩
   ·rw[show k+1-1=k by omega,List.getElem?_eq_getElem hk];rfl
   ·rw[List.take_succ_eq_append_getElem hk,List.reverse_append];rfl
 | false =>
  simp only[Bool.false_eq_true,if_false];by_cases h0:i<pts.length
  ·exact .inr ⟨i+1,pts[i],by rw[List.getElem?_eq_getElem h0];rfl,List.drop_eq_getElem_cons h0⟩
  ·exact .inl ⟨by rw[List.getElem?_eq_none (by omega)];rfl,List.drop_eq_nil_of_le (by omega)⟩
theorem rd_some {i j:Nat}{p:Int}(hi:i≤pts.length)(h:stepM pts back i=some (j,p)):rdC pts back i=p::rdC pts back j:=by
 rcases rd_step (back:=back) hi with ⟨e1,_⟩|⟨k,q,e1,e2⟩
 ·rw[h]at e1;cases e1
 ·rw[h]at e1;cases e1;exact e2
theorem step_mem {i j:Nat}{p:Int}(h:stepM pts back i=some (j,p)):p∈pts:=by
 unfold stepM at h;split at h
 ·split at h
  ·cases h
  ·cases hp:pts[i-1]? with
   | none=>rw[hp]at h;cases h
   | some q=>rw[hp]at h;cases h;exact List.mem_of_getElem? hp
 ·cases hp:pts[i]? with
  | none=>rw[hp]at h;cases h
  | some q=>rw[hp]at h;cases h;exact List.mem_of_getElem? hp
theorem iterM_app {R:Nat→Nat→Prop}:∀{m n i j:Nat},iterM R (m+n) i j↔∃k,iterM R m i k∧iterM R n k j
 | 0,n,i,j=>by rw[Nat.zero_add];exact⟨fun h=>⟨i,rfl,h⟩,fun⟨k,h1,h2⟩=>by cases h1;exact h2⟩
 | m+1,n,i,j=>by
  rw[show m+1+n=(m+n)+1 by omega];constructor
  ·rintro⟨a,h1,h2⟩;obtain⟨k,h3,h4⟩:=iterM_app.1 h2;exact⟨k,⟨a,h1,h3⟩,h4⟩
  ·rintro⟨k,⟨a,h1,h3⟩,h4⟩;exact⟨a,h1,iterM_app.2 ⟨k,h3,h4⟩⟩
def Fw (c:CodeP)(pts:List Int)(back:Bool)(S R:Nat→Nat→Prop):Prop:=∀a b i h,S a b→i≤pts.length→accN c h a (rdC pts back i)→∃j h',j≤pts.length∧h'≤h∧R i j∧accN c h' b (rdC pts back j)
def Bw (c:CodeP)(pts:List Int)(back:Bool)(S R:Nat→Nat→Prop):Prop:=∀a b i j,S a b→i≤pts.length→R i j→Acc c b (rdC pts back j)→Acc c a (rdC pts back i)
theorem accN_take {h a:Nat}{ps:List Int}{i:Int}(hx:c.ins[a]?=some ⟨1,i,0⟩)(hh:accN c h a ps):∃h' p r,h'+1=h∧ps=p::r∧hasP (c.sets.getD i.toNat []) p=true∧accN c h' (a+1) r:=by
 cases h with
 | zero=>exact hh.elim
 | succ h =>
  rw[accN,hx]at hh;dsimp only at hh;rw[if_neg (by decide),if_neg (by decide),if_neg (by decide),if_neg (by decide)]at hh;cases ps with
  | nil=>exact hh.elim
  | cons p r=>exact⟨h,p,r,rfl,rfl,hh.1,hh.2⟩
theorem accN_split {h a:Nat}{ps:List Int}{i j:Int}(hx:c.ins[a]?=some ⟨2,i,j⟩)(hh:accN c h a ps):∃h',h'+1=h∧(accN c h' i.toNat ps∨accN c h' j.toNat ps):=by
 cases h with
 | zero=>exact hh.elim
 | succ h =>
  rw[accN,hx]at hh;dsimp only at hh;rw[if_neg (by decide),if_pos rfl]at hh;exact⟨h,rfl,hh⟩
theorem accN_jump {h a:Nat}{ps:List Int}{i:Int}(hx:c.ins[a]?=some ⟨3,i,0⟩)(hh:accN c h a ps):∃h',h'+1=h∧accN c h' i.toNat ps:=by
 cases h with
 | zero=>exact hh.elim
 | succ h =>
  rw[accN,hx]at hh;dsimp only at hh;rw[if_neg (by decide),if_neg (by decide),if_pos rfl]at hh;exact⟨h,rfl,hh⟩
theorem accN_end {h a:Nat}{ps:List Int}(hx:c.ins[a]?=some ⟨4,0,0⟩)(hh:accN c h a ps):∃h',h'+1=h∧ps=[]∧accN c h' (a+1) ps:=by
 cases h with
 | zero=>exact hh.elim
 | succ h =>
  rw[accN,hx]at hh;dsimp only at hh;rw[if_neg (by decide),if_neg (by decide),if_neg (by decide),if_pos rfl]at hh;exact⟨h,rfl,hh.1,hh.2⟩
theorem iter_fw {S R:Nat→Nat→Prop}(hF:Fw c pts back S R):∀n,Fw c pts back (iterM S n) (iterM R n)
 | 0,a,b,i,h,hs,hi,hh=>by cases hs;exact⟨i,h,hi,Nat.le_refl _,rfl,hh⟩
 | n+1,a,b,i,h,⟨m,h1,h2⟩,hi,hh=>by
  obtain⟨j,h',hj,hle,hr,hh'⟩:=hF a m i h h1 hi hh;obtain⟨k,h'',hk,hle',hr',hh''⟩:=iter_fw hF n m b j h' h2 hj hh';exact⟨k,h'',hk,by omega,⟨j,hr,hr'⟩,hh''⟩
theorem iter_bw {S R:Nat→Nat→Prop}(hle:∀i j,i≤pts.length→R i j→j≤pts.length)(hB:Bw c pts back S R):∀n,Bw c pts back (iterM S n) (iterM R n)
 | 0,a,b,i,j,hs,hi,hr,hh=>by cases hs;cases hr;exact hh
 | n+1,a,b,i,j,⟨m,h1,h2⟩,hi,⟨k,r1,r2⟩,hh=>hB a m i k h1 hi r1 (iter_bw hle hB n m b k j h2 (hle _ _ hi r1) r2 hh)
theorem hi_fw {S R:Nat→Nat→Prop}{e:Nat}(hF:Fw c pts back S R):∀t m i h,segHi c S e t m→i≤pts.length→accN c h m (rdC pts back i)→∃n j h',n≤t∧j≤pts.length∧h'≤h∧iterM R n i j∧accN c h' e (rdC pts back j)
 | 0,m,i,h,hs,hi,hh=>by cases hs;exact⟨0,i,h,Nat.le_refl _,hi,Nat.le_refl _,rfl,hh⟩
 | t+1,m,i,h,hs,hi,hh=>by
  obtain⟨hx,m',h1,h2⟩:=hs;obtain⟨h0,rfl,hq⟩:=accN_split hx hh;rw[Int.toNat_natCast,Int.toNat_natCast]at hq;rcases hq with hh|hh
  ·obtain⟨j,h',hj,hle,hr,hh'⟩:=hF (m+1) m' i h0 h1 hi hh;obtain⟨n,k,h'',hn,hk,hle',hr',hh''⟩:=hi_fw hF t m' j h' h2 hj hh';exact⟨n+1,k,h'',by omega,hk,by omega,⟨j,hr,hr'⟩,hh''⟩
  ·exact⟨0,i,h0,by omega,hi,by omega,rfl,hh⟩
theorem hi_bw {S R:Nat→Nat→Prop}{e:Nat}(hle:∀i j,i≤pts.length→R i j→j≤pts.length)(hB:Bw c pts back S R):∀t m i j n,segHi c S e t m→i≤pts.length→n≤t→iterM R n i j→Acc c e (rdC pts back j)→Acc c m (rdC pts back i)
 | 0,m,i,j,n,hs,hi,hn,hr,hh=>by
  obtain rfl:n=0:=by omega
  cases hs;cases hr;exact hh
 | t+1,m,i,j,n,hs,hi,hn,hr,hh=>by
  obtain⟨hx,m',h1,h2⟩:=hs;refine(acc_split hx rfl).2 ?_;simp only[Int.toNat_natCast];cases n with
  | zero=>cases hr;exact .inr hh
  | succ n =>
   obtain⟨k,r1,r2⟩:=hr;exact .inl (hB (m+1) m' i k h1 hi r1 (hi_bw hle hB t m' k j n h2 (hle _ _ hi r1) (by omega) r2 hh))
theorem star_fw {S R:Nat→Nat→Prop}{m e b:Nat}(hF:Fw c pts back S R)(hx:c.ins[m]?=some ⟨2,((m+1:Nat):Int),(b:Int)⟩)(hS:S (m+1) e)(hj:c.ins[e]?=some ⟨3,(m:Int),0⟩):∀h i,i≤pts.length→accN c h m (rdC pts back i)→∃n j h',j≤pts.length∧h'≤h∧iterM R n i j∧accN c h' b (rdC pts back j):=by
 intro h;induction h using Nat.strongRecOn with
 | ind h ih =>
  intro i hi hh;obtain⟨h0,rfl,hq⟩:=accN_split hx hh;rw[Int.toNat_natCast,Int.toNat_natCast]at hq;rcases hq with hh|hh
  ·obtain⟨j,h1,hj',hle,hr,hh'⟩:=hF (m+1) e i h0 hS hi hh;obtain⟨h2,rfl,hh''⟩:=accN_jump hj hh';rw[Int.toNat_natCast]at hh'';obtain⟨n,k,h3,hk,hle',hr',hh3⟩:=ih h2 (by omega) j hj' hh'';exact⟨n+1,k,h3,hk,by omega,⟨j,hr,hr'⟩,hh3⟩
  ·exact⟨0,i,h0,hi,by omega,rfl,hh⟩
theorem star_bw {S R:Nat→Nat→Prop}{m e b:Nat}(hle:∀i j,i≤pts.length→R i j→j≤pts.length)(hB:Bw c pts back S R)(hx:c.ins[m]?=some ⟨2,((m+1:Nat):Int),(b:Int)⟩)(hS:S (m+1) e)(hj:c.ins[e]?=some ⟨3,(m:Int),0⟩):∀n i j,i≤pts.length→iterM R n i j→Acc c b (rdC pts back j)→Acc c m (rdC pts back i)
 | 0,i,j,hi,hr,hh=>by
  cases hr;exact(acc_split hx rfl).2 (.inr (by simpa only[Int.toNat_natCast] using hh))
 | n+1,i,j,hi,⟨k,r1,r2⟩,hh=>by
  refine(acc_split hx rfl).2 (.inl ?_);simp only[Int.toNat_natCast];refine hB (m+1) e i k hS hi r1 ((acc_jump hj rfl).2 ?_);simp only[Int.toNat_natCast];exact star_bw hle hB hx hS hj n k j (hle _ _ hi r1) r2 hh
theorem getD_set {i:Nat}{s:List Rg}(h:c.sets[i]?=some s):c.sets.getD ((i:Int)).toNat []=s:=by
 rw[Int.toNat_natCast,List.getD_eq_getElem?_getD,h];rfl
mutual
theorem seg_fw:∀(back:Bool) (x:PatP),PatOk x→Fw c pts back (Seg has c back x) (Rch has pts back x)
 | back,.one k,_,a,b,i,h,hs,hi,hh=>by
  simp only[Seg]at hs;obtain⟨rfl,q,s,hx,hq,hp⟩:=hs;obtain⟨h',p,r,rfl,e,h1,h2⟩:=accN_take hx hh;rw[getD_set hq]at h1;rcases rd_step (back:=back) hi with ⟨_,e2⟩|⟨j,p',e1,e2⟩
  ·rw[e2]at e;cases e
  ·rw[e2]at e;cases e;exact⟨j,h',stepM_le e1 hi,by omega,by simp only[Rch];exact⟨_,e1,(hp _).1 h1⟩,h2⟩
 | back,.any,_,a,b,i,h,hs,hi,hh=>by
  simp only[Seg]at hs;obtain⟨rfl,q,s,hx,hq,hp⟩:=hs;obtain⟨h',p,r,rfl,e,h1,h2⟩:=accN_take hx hh;rcases rd_step (back:=back) hi with ⟨_,e2⟩|⟨j,p',e1,e2⟩
  ·rw[e2]at e;cases e
  ·rw[e2]at e;cases e;exact⟨j,h',stepM_le e1 hi,by omega,by simp only[Rch];exact⟨_,e1⟩,h2⟩
 | back,.edge,_,a,b,i,h,hs,hi,hh=>by
  simp only[Seg]at hs;obtain⟨rfl,hx⟩:=hs;obtain⟨h',rfl,e,h2⟩:=accN_end hx hh;rcases rd_step (back:=back) hi with ⟨e1,e2⟩|⟨j,p',e1,e2⟩
  ·exact⟨i,h',hi,by omega,by simp only[Rch];exact⟨trivial,e1⟩,h2⟩
  ·rw[e2]at e;cases e
 | back,.cat l,hok,a,b,i,h,hs,hi,hh=>by
  simp only[PatOk]at hok;simp only[Seg]at hs;simp only[Rch];cases back with
  | true=>exact segB_fw l hok a b i h hs hi hh
  | false=>exact segF_fw l hok a b i h hs hi hh
 | back,.alt l,hok,a,b,i,h,hs,hi,hh=>by
  simp only[PatOk]at hok;simp only[Seg]at hs;simp only[Rch];exact segA_fw back l hok a b i h hs hi hh
 | back,.many x lo hi',hok,a,b,i,h,hs,hi,hh=>by
  simp only[PatOk]at hok;simp only[Seg]at hs;simp only[rch_many];obtain⟨m,h1,h2⟩:=hs;obtain⟨j,h',hj,hle,hr,hh'⟩:=iter_fw (seg_fw back x hok.1) lo.toNat a m i h h1 hi hh;split at h2
  ·rename_i hneg;obtain⟨hx,e,hS,hjm,rfl⟩:=h2;obtain⟨n,k,h'',hk,hle',hr',hh''⟩:=star_fw (seg_fw back x hok.1) hx hS hjm h' j hj hh';exact⟨k,h'',hk,by omega,⟨lo.toNat+n,by omega,.inl hneg,iterM_app.2 ⟨j,hr,hr'⟩⟩,hh''⟩
  ·rename_i hneg;obtain⟨n,k,h'',hn,hk,hle',hr',hh''⟩:=hi_fw (seg_fw back x hok.1) (hi'-lo).toNat m j h' h2 hj hh';exact⟨k,h'',hk,by omega,⟨lo.toNat+n,by omega,.inr (by omega),iterM_app.2 ⟨j,hr,hr'⟩⟩,hh''⟩
theorem segF_fw:∀l:List PatP,PatsOk l→Fw c pts false (SegF has c false l) (RchF has pts false l)
 | [],_,a,b,i,h,hs,hi,hh=>by simp only[SegF]at hs;subst hs;exact⟨i,h,hi,Nat.le_refl _,by simp only[RchF],hh⟩
 | x::l,hok,a,b,i,h,hs,hi,hh=>by
  simp only[PatsOk]at hok;simp only[SegF]at hs;obtain⟨m,h1,h2⟩:=hs;obtain⟨j,h',hj,hle,hr,hh'⟩:=seg_fw false x hok.1 a m i h h1 hi hh;obtain⟨k,h'',hk,hle',hr',hh''⟩:=segF_fw l hok.2 m b j h' h2 hj hh';exact⟨k,h'',hk,by omega,by simp only[RchF];exact⟨j,hr,hr'⟩,hh''⟩
theorem segB_fw:∀l:List PatP,PatsOk l→Fw c pts true (SegB has c true l) (RchB has pts true l)
 | [],_,a,b,i,h,hs,hi,hh=>by simp only[SegB]at hs;subst hs;exact⟨i,h,hi,Nat.le_refl _,by simp only[RchB],hh⟩
 | x::l,hok,a,b,i,h,hs,hi,hh=>by
  simp only[PatsOk]at hok;simp only[SegB]at hs;obtain⟨m,h1,h2⟩:=hs;obtain⟨j,h',hj,hle,hr,hh'⟩:=segB_fw l hok.2 a m i h h1 hi hh;obtain⟨k,h'',hk,hle',hr',hh''⟩:=seg_fw true x hok.1 m b j h' h2 hj hh';exact⟨k,h'',hk,by omega,by simp only[RchB];exact⟨j,hr,hr'⟩,hh''⟩
theorem segA_fw:∀(back:Bool) (l:List PatP),PatsOk l→Fw c pts back (SegA has c back l) (RchA has pts back l)
 | _,[],_,a,b,i,h,hs,hi,hh=>by simp only[SegA]at hs
 | back,x::l,hok,a,b,i,h,hs,hi,hh=>by
  simp only[PatsOk]at hok;simp only[SegA]at hs;simp only[RchA];rcases hs with ⟨rfl,hs⟩|⟨_,m,hx,h1,hj,h2⟩
  ·obtain⟨j,h',hj,hle,hr,hh'⟩:=seg_fw back x hok.1 a b i h hs hi hh;exact⟨j,h',hj,hle,.inl hr,hh'⟩
  ·obtain⟨h0,rfl,hq⟩:=accN_split hx hh;rw[Int.toNat_natCast,Int.toNat_natCast]at hq;rcases hq with hh|hh
   ·obtain⟨j,h',hj',hle,hr,hh'⟩:=seg_fw back x hok.1 (a+1) m i h0 h1 hi hh;obtain⟨h3,rfl,hh3⟩:=accN_jump hj hh';rw[Int.toNat_natCast]at hh3;exact⟨j,h3,hj',by omega,.inl hr,hh3⟩
   ·obtain⟨j,h',hj',hle,hr,hh'⟩:=segA_fw back l hok.2 (m+1) b i h0 h2 hi hh;exact⟨j,h',hj',by omega,.inr hr,hh'⟩
end
mutual
theorem seg_bw (hpt:∀p∈pts,0≤p∧p≤1114111):∀(back:Bool) (x:PatP),PatOk x→Bw c pts back (Seg has c back x) (Rch has pts back x)
 | back,.one k,_,a,b,i,j,hs,hi,hr,hh=>by
  simp only[Seg]at hs;simp only[Rch]at hr;obtain⟨rfl,q,s,hx,hq,hp⟩:=hs;obtain⟨p,e1,h1⟩:=hr;refine(acc_take hx ⟨by simp,by simp,by simp,by simp⟩).2 ⟨p,_,rd_some hi e1,?_,hh⟩;dsimp only;rw[getD_set hq];exact(hp p).2 h1
 | back,.any,_,a,b,i,j,hs,hi,hr,hh=>by
  simp only[Seg]at hs;simp only[Rch]at hr;obtain⟨rfl,q,s,hx,hq,hp⟩:=hs;obtain⟨p,e1⟩:=hr;refine(acc_take hx ⟨by simp,by simp,by simp,by simp⟩).2 ⟨p,_,rd_some hi e1,?_,hh⟩;dsimp only;rw[getD_set hq];have:=hpt p (step_mem e1);exact hp p this.1 this.2
 | back,.edge,_,a,b,i,j,hs,hi,hr,hh=>by
  simp only[Seg]at hs;simp only[Rch]at hr;obtain⟨rfl,hx⟩:=hs;obtain⟨rfl,e1⟩:=hr;rcases rd_step (back:=back) hi with ⟨_,e2⟩|⟨j,p',e3,e2⟩
  ·exact(acc_end hx rfl).2 ⟨e2,hh⟩
  ·rw[e1]at e3;cases e3
 | back,.cat l,hok,a,b,i,j,hs,hi,hr,hh=>by
  simp only[PatOk]at hok;simp only[Seg]at hs;simp only[Rch]at hr;cases back with
  | true=>exact segB_bw hpt l hok a b i j hs hi hr hh
  | false=>exact segF_bw hpt l hok a b i j hs hi hr hh
 | back,.alt l,hok,a,b,i,j,hs,hi,hr,hh=>by
  simp only[PatOk]at hok;simp only[Seg]at hs;simp only[Rch]at hr;exact segA_bw hpt back l hok a b i j hs hi hr hh
 | back,.many x lo hi',hok,a,b,i,j,hs,hi,hr,hh=>by
  simp only[PatOk]at hok;simp only[Seg]at hs;simp only[rch_many]at hr;obtain⟨m,h1,h2⟩:=hs;obtain⟨n,hn1,hn2,hr⟩:=hr;have hle:∀i j,i≤pts.length→Rch has pts back x i j→j≤pts.length:=fun i j=>rch_le x;rw[show n=lo.toNat+(n-lo.toNat) by omega]at hr;obtain⟨k,r1,r2⟩:=iterM_app.1 hr;have hk:k≤pts.length:=iterM_le hle hi r1;refine iter_bw hle (seg_bw hpt back x hok.1) lo.toNat a m i k h1 hi r1 ?_
  split at h2
  ·obtain⟨hx,e,hS,hjm,rfl⟩:=h2;exact star_bw hle (seg_bw hpt back x hok.1) hx hS hjm _ k j hk r2 hh
  ·exact hi_bw hle (seg_bw hpt back x hok.1) _ m k j _ h2 hk (by omega) r2 hh
theorem segF_bw (hpt:∀p∈pts,0≤p∧p≤1114111):∀l:List PatP,PatsOk l→Bw c pts false (SegF has c false l) (RchF has pts false l)
 | [],_,a,b,i,j,hs,hi,hr,hh=>by simp only[SegF]at hs;simp only[RchF]at hr;subst hs;subst hr;exact hh
 | x::l,hok,a,b,i,j,hs,hi,hr,hh=>by
  simp only[PatsOk]at hok;simp only[SegF]at hs;simp only[RchF]at hr;obtain⟨m,h1,h2⟩:=hs;obtain⟨k,r1,r2⟩:=hr;exact seg_bw hpt false x hok.1 a m i k h1 hi r1 (segF_bw hpt l hok.2 m b k j h2 (rch_le x hi r1) r2 hh)
theorem segB_bw (hpt:∀p∈pts,0≤p∧p≤1114111):∀l:List PatP,PatsOk l→Bw c pts true (SegB has c true l) (RchB has pts true l)
 | [],_,a,b,i,j,hs,hi,hr,hh=>by simp only[SegB]at hs;simp only[RchB]at hr;subst hs;subst hr;exact hh
 | x::l,hok,a,b,i,j,hs,hi,hr,hh=>by
  simp only[PatsOk]at hok;simp only[SegB]at hs;simp only[RchB]at hr;obtain⟨m,h1,h2⟩:=hs;obtain⟨k,r1,r2⟩:=hr;exact segB_bw hpt l hok.2 a m i k h1 hi r1 (seg_bw hpt true x hok.1 m b k j h2 (rchB_le l hi r1) r2 hh)
theorem segA_bw (hpt:∀p∈pts,0≤p∧p≤1114111):∀(back:Bool) (l:List PatP),PatsOk l→Bw c pts back (SegA has c back l) (RchA has pts back l)
 | _,[],_,a,b,i,j,hs,hi,hr,hh=>by simp only[SegA]at hs
 | back,x::l,hok,a,b,i,j,hs,hi,hr,hh=>by
  simp only[PatsOk]at hok;simp only[SegA]at hs;simp only[RchA]at hr;rcases hs with ⟨rfl,hs⟩|⟨_,m,hx,h1,hj,h2⟩
  ·rcases hr with hr|hr
   ·exact seg_bw hpt back x hok.1 a b i j hs hi hr hh
   ·simp only[RchA]at hr
  ·refine(acc_split hx rfl).2 ?_;simp only[Int.toNat_natCast];rcases hr with hr|hr
   ·exact .inl (seg_bw hpt back x hok.1 (a+1) m i j h1 hi hr ((acc_jump hj rfl).2 (by simpa only[Int.toNat_natCast] using hh)))
   ·exact .inr (segA_bw hpt back l hok.2 (m+1) b i j h2 hi hr hh)
end
theorem seg_stands (hpt:∀p∈pts,0≤p∧p≤1114111){x:PatP}{b i:Nat}(hok:PatOk x)(hs:Seg has c back x 0 b)(hy:c.ins[b]?=some ⟨5,0,0⟩)(hi:i≤pts.length):Acc c 0 (rdC pts back i)↔standsM has pts x i back:=by
 constructor
 ·rintro⟨h,hh⟩;obtain⟨j,h',_,_,hr,_⟩:=seg_fw back x hok 0 b i h hs hi hh;exact⟨j,hr⟩
 ·rintro⟨j,hr⟩;exact seg_bw hpt back x hok 0 b i j hs hi hr (acc_yes hy rfl)
end
end Cae
end
