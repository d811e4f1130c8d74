/- Lemmas. -/
import Derived.Test.YtledlfbbebodgaaGreatDoorM6
import Derived.Shelf.Strconv.AtoiAll
set_option maxRecDepth 100000
set_option linter.unusedSimpArgs false
set_option linter.unusedVariables false
set_option maxHeartbeats 8000000
section
namespace Cae
theorem fold_le (l:List UInt8):∀a:Nat,a≤l.foldl (fun m b=>10*m+(b.toNat-48)) a:=by
 induction l with
 | nil=>exact fun a=>Nat.le_refl _
 | cons b l ih=>exact fun a=>Nat.le_trans (show a≤10*a+(b.toNat-48) by omega) (ih _)
theorem parse10:∀(l:List UInt8) (a:Nat),(∀c∈l,digitP c=true)→Go.Lib.parseUint10 a l=.ok (l.foldl (fun m b=>10*m+(b.toNat-48)) a)∨(Go.Lib.parseUint10 a l=.range∧12<l.foldl (fun m b=>10*m+(b.toNat-48)) a)
 | [],a,_=>.inl rfl
 | c::r,a,h=>by
  have hc:=h c (by simp);simp only[digitP,Bool.and_eq_true,decide_eq_true_eq]at hc;have h1:=fold_le r (10*a+(c.toNat-48));have e:a*10+(c.toNat-48)=10*a+(c.toNat-48):=by omega
  rw[Go.Lib.parseUint10,if_pos hc,List.foldl_cons,e];split
  ·exact .inr ⟨rfl,by omega⟩
  ·split
   ·exact .inr ⟨rfl,by omega⟩
   ·exact parse10 r _ (fun x hx=>h x (by simp[hx]))
theorem atoi_dig {l:List UInt8}(hne:l≠[])(h:∀c∈l,digitP c=true):Go.Lib.atoiAll l=.ok (decV l:Int)∨(Go.Lib.atoiAll l=.range∧12<decV l):=by
 obtain⟨c,r,rfl⟩:∃c r,l=c::r:=by cases l with
  | nil=>exact absurd rfl hne
  | cons c r=>exact⟨c,r,rfl⟩
 have hc:=h c (by simp);simp only[digitP,Bool.and_eq_true,decide_eq_true_eq]at hc;rw[Go.Lib.atoiAll_plain c r (by omega) (by omega)];have hm:Go.Lib.parseMag (c::r)=Go.Lib.parseUint10 0 (c::r):=by unfold Go.Lib.parseMag;rw[if_neg (by simp)]
 rw[hm];rcases parse10 (c::r) 0 h with h1|⟨h1,h2⟩
 ·rw[h1];unfold Go.Lib.signless;have e:(c::r).foldl (fun m b=>10*m+(b.toNat-48)) 0=decV (c::r):=rfl;rw[e];dsimp only;split
  ·exact .inr ⟨rfl,by omega⟩
  ·exact .inl rfl
 ·rw[h1];exact .inr ⟨rfl,h2⟩
end Cae
namespace Go.Proofs.YtledlfbbebodgaaGreatDoor
open Go.Vc Go.Proofs Go.RowKit Cae
attribute [local irreducible] wpL callK valK unitK runK Fun Sl Vc.Own vc vcOps opK pureK
def atoiR_ren:Go.Shelf.Ren:=⟨fun|172=>202|244=>219|245=>201|247=>200|279=>215|280=>216|281=>217|282=>218|287=>214|316=>226|171=>228|205=>227|321=>224|322=>225|243=>230|246=>162|283=>186|284=>187|285=>188|286=>189|129=>157|317=>203|318=>204|319=>205|320=>206|337=>220|338=>221|n=>n,fun|9=>9|3=>3|75=>31|76=>232|4=>4|5=>5|167=>288|37=>229|0=>0|85=>268|2=>2|168=>291|53=>246|175=>289|46=>103|210=>297|127=>248|145=>309|143=>307|21=>21|171=>270|173=>272|212=>283|51=>244|20=>20|213=>284|232=>299|233=>300|80=>174|n=>n,fun|15=>5|16=>6|17=>4|18=>7|19=>8|n=>n⟩
theorem atoiR:Go.Proofs.LaysC.n172 Tryz.prog atoiR_ren:={
 mixed:=by kernel_rfl
 f129:=Tryz.func157.trans (congrArg some (by kernel_rfl))
 f171:=Tryz.func228.trans (congrArg some (by kernel_rfl))
 f172:=Tryz.func202.trans (congrArg some (by kernel_rfl))
 f205:=Tryz.func227.trans (congrArg some (by kernel_rfl))
 f243:=Tryz.func230.trans (congrArg some (by kernel_rfl))
 f244:=Tryz.func219.trans (congrArg some (by kernel_rfl))
 f245:=Tryz.func201.trans (congrArg some (by kernel_rfl))
 f246:=Tryz.func162.trans (congrArg some (by kernel_rfl))
 f247:=Tryz.func200.trans (congrArg some (by kernel_rfl))
 f279:=Tryz.func215.trans (congrArg some (by kernel_rfl))
 f280:=Tryz.func216.trans (congrArg some (by kernel_rfl))
 f281:=Tryz.func217.trans (congrArg some (by kernel_rfl))
 f282:=Tryz.func218.trans (congrArg some (by kernel_rfl))
 f283:=Tryz.func186.trans (congrArg some (by kernel_rfl))
 f284:=Tryz.func187.trans (congrArg some (by kernel_rfl))
 f285:=Tryz.func188.trans (congrArg some (by kernel_rfl))
 f286:=Tryz.func189.trans (congrArg some (by kernel_rfl))
 f287:=Tryz.func214.trans (congrArg some (by kernel_rfl))
 f316:=Tryz.func226.trans (congrArg some (by kernel_rfl))
 f317:=Tryz.func203.trans (congrArg some (by kernel_rfl))
 f318:=Tryz.func204.trans (congrArg some (by kernel_rfl))
 f319:=Tryz.func205.trans (congrArg some (by kernel_rfl))
 f320:=Tryz.func206.trans (congrArg some (by kernel_rfl))
 f321:=Tryz.func224.trans (congrArg some (by kernel_rfl))
 f322:=Tryz.func225.trans (congrArg some (by kernel_rfl))
 f337:=Tryz.func220.trans (congrArg some (by kernel_rfl))
 f338:=Tryz.func221.trans (congrArg some (by kernel_rfl))
 t0:=Tryz.underlying0
 a0:=Tryz.isAgg0
 z0:=Tryz.sizeOf0
 v0:=Tryz.zeroValue0
 t2:=Tryz.underlying2
 a2:=Tryz.isAgg2
 z2:=Tryz.sizeOf2
 v2:=Tryz.zeroValue2
 t3:=Tryz.underlying3
 a3:=Tryz.isAgg3
 z3:=Tryz.sizeOf3
 v3:=Tryz.zeroValue3
 t4:=Tryz.underlying4
 a4:=Tryz.isAgg4
 z4:=Tryz.sizeOf4
 v4:=Tryz.zeroValue4
 t5:=Tryz.underlying5
 a5:=Tryz.isAgg5
 z5:=Tryz.sizeOf5
 v5:=Tryz.zeroValue5
 t9:=Tryz.underlying9
 a9:=Tryz.isAgg9
 z9:=Tryz.sizeOf9
 v9:=Tryz.zeroValue9
 t20:=Tryz.underlying20
 a20:=Tryz.isAgg20
 z20:=Tryz.sizeOf20
 v20:=Tryz.zeroValue20
 t21:=Tryz.underlying21
 a21:=Tryz.isAgg21
 z21:=Tryz.sizeOf21
 v21:=Tryz.zeroValue21
 t37:=Tryz.underlying229
 a37:=Tryz.isAgg229
 z37:=Tryz.sizeOf229
 v37:=Tryz.zeroValue229
 t46:=Tryz.underlying103
 a46:=Tryz.isAgg103
 z46:=Tryz.sizeOf103
 v46:=Tryz.zeroValue103
 t51:=Tryz.underlying244
 a51:=Tryz.isAgg244
 z51:=Tryz.sizeOf244
 v51:=Tryz.zeroValue244
 t53:=Tryz.underlying246
 a53:=Tryz.isAgg246
 z53:=Tryz.sizeOf246
 v53:=Tryz.zeroValue246
 t75:=Tryz.underlying31
 a75:=Tryz.isAgg31
 z75:=Tryz.sizeOf31
 v75:=Tryz.zeroValue31
 t76:=Tryz.underlying232
 a76:=Tryz.isAgg232
 z76:=Tryz.sizeOf232
 v76:=Tryz.zeroValue232
 t85:=Tryz.underlying268
 a85:=Tryz.isAgg268
 z85:=Tryz.sizeOf268
 v85:=Tryz.zeroValue268
 t127:=Tryz.underlying248
 a127:=Tryz.isAgg248
 z127:=Tryz.sizeOf248
 v127:=Tryz.zeroValue248
 t143:=Tryz.underlying307
 a143:=Tryz.isAgg307
 z143:=Tryz.sizeOf307
 v143:=Tryz.zeroValue307
 t145:=Tryz.underlying309
 a145:=Tryz.isAgg309
 z145:=Tryz.sizeOf309
 v145:=Tryz.zeroValue309
 t167:=Tryz.underlying288
 a167:=Tryz.isAgg288
 z167:=Tryz.sizeOf288
 v167:=Tryz.zeroValue288
 t168:=Tryz.underlying291
 a168:=Tryz.isAgg291
 z168:=Tryz.sizeOf291
 v168:=Tryz.zeroValue291
 t171:=Tryz.underlying270
 a171:=Tryz.isAgg270
 z171:=Tryz.sizeOf270
 v171:=Tryz.zeroValue270
 t173:=Tryz.underlying272
 a173:=Tryz.isAgg272
 z173:=Tryz.sizeOf272
 v173:=Tryz.zeroValue272
 t175:=Tryz.underlying289
 a175:=Tryz.isAgg289
 z175:=Tryz.sizeOf289
 v175:=Tryz.zeroValue289
 t210:=Tryz.underlying297
 a210:=Tryz.isAgg297
 z210:=Tryz.sizeOf297
 v210:=Tryz.zeroValue297
 t212:=Tryz.underlying283
 a212:=Tryz.isAgg283
 z212:=Tryz.sizeOf283
 v212:=Tryz.zeroValue283
 t213:=Tryz.underlying284
 a213:=Tryz.isAgg284
 z213:=Tryz.sizeOf284
 t232:=Tryz.underlying299
 a232:=Tryz.isAgg299
 z232:=Tryz.sizeOf299
 v232:=Tryz.zeroValue299
 t233:=Tryz.underlying300
 a233:=Tryz.isAgg300
 z233:=Tryz.sizeOf300
 v233:=Tryz.zeroValue300
 g15:=by kernel_rfl
 g16:=by kernel_rfl
 g17:=by kernel_rfl
 g18:=by kernel_rfl
 g19:=by kernel_rfl
 t80:=Tryz.underlying174
 a80:=Tryz.isAgg174
 z80:=Tryz.sizeOf174
 v80:=Tryz.zeroValue174
 i0:=by kernel_rfl
 i2:=by kernel_rfl
 i3:=by kernel_rfl
 i4:=by kernel_rfl
 i5:=by kernel_rfl
 i9:=by kernel_rfl
 i20:=by kernel_rfl
 i21:=by kernel_rfl
 i37:=by kernel_rfl
 i46:=by kernel_rfl
 i51:=by kernel_rfl
 i53:=by kernel_rfl
 i75:=by kernel_rfl
 i76:=by kernel_rfl
 i80:=by kernel_rfl
 i85:=by kernel_rfl
 i127:=by kernel_rfl
 i143:=by kernel_rfl
 i145:=by kernel_rfl
 i167:=by kernel_rfl
 i168:=by kernel_rfl
 i171:=by kernel_rfl
 i173:=by kernel_rfl
 i175:=by kernel_rfl
 i210:=by kernel_rfl
 i212:=by kernel_rfl
 i232:=by kernel_rfl
 i233:=by kernel_rfl
 m15:=by kernel_rfl
 m16:=by kernel_rfl
 m17:=by kernel_rfl
 m18:=by kernel_rfl
 m19:=by kernel_rfl
 c0:=by kernel_rfl
 c2:=by kernel_rfl
 c3:=by kernel_rfl
 c4:=by kernel_rfl
 c5:=by kernel_rfl
 c9:=by kernel_rfl
 c20:=by kernel_rfl
 c21:=by kernel_rfl
 c37:=by kernel_rfl
 c46:=by kernel_rfl
 c51:=by kernel_rfl
 c53:=by kernel_rfl
 c75:=by kernel_rfl
 c76:=by kernel_rfl
 c80:=by kernel_rfl
 c85:=by kernel_rfl
 c127:=by kernel_rfl
 c143:=by kernel_rfl
 c145:=by kernel_rfl
 c167:=by kernel_rfl
 c168:=by kernel_rfl
 c171:=by kernel_rfl
 c173:=by kernel_rfl
 c175:=by kernel_rfl
 c210:=by kernel_rfl
 c212:=by kernel_rfl
 c213:=by kernel_rfl
 c232:=by kernel_rfl
 c233:=by kernel_rfl }
theorem atoi_c (s:List UInt8)(hs:s.length≤1000000)(hne:s≠[])(hd:∀c∈s,digitP c=true)(w:World)(h:SErrs w):Fun Tryz.prog 202 [str s] w fun r w' =>
  (r=.tuple #[.int .i64 (decV s),.nilIface]∨(12<decV s∧∃v t p,r=.tuple #[.int .i64 v,.iface t p]))∧Below w.heap.size w w':=by
 obtain⟨⟨t1,p1,h1⟩,⟨t2,p2,h2⟩⟩:=h;refine fun_of_calls Tryz.func202 (by kernel_rfl) (by kernel_rfl) ?_;rcases atoi_dig hne hd with ha|⟨ha,hb⟩
 ·refine Calls.mono (Any.strconv_Atoi_ok atoiR ⟨s.toArray⟩ (by show s.length≤_;omega) _ ha w) ?_;rintro e w' ⟨rfl,hw⟩;refine⟨_,rfl,.inl rfl,?_⟩;rcases hw with rfl|⟨t,rfl⟩
  ·exact Below.refl _ _
  ·exact Lib.bytesWorld_below _ _ _
 ·refine Calls.mono (Any.strconv_Atoi_range atoiR ⟨s.toArray⟩ (by show s.length≤_;omega) ha _ w h2 (.inr ⟨_,_,rfl⟩)) ?_;rintro e w' ⟨N,rfl,_,_,hw⟩;exact⟨_,rfl,.inr ⟨hb,_,_,_,rfl⟩,hw⟩
theorem times_c {pb B:Nat}{w:World}{l:List Tok}(h:PS pb B w l):Pc 185 [.pointer (some ⟨pb,0,none⟩)] pb B w l timesP (fun _ r n=>r=.int .i64 (n:Int)∧n≤12):=by
 obtain⟨t,r,rfl⟩:=h.tl.cons;obtain⟨b,o,c,hB,hc,hne,c0,c1,c2,c3⟩:=h.hd;have cb:w.cell? ⟨pb,0,none⟩=some (.slice (some ⟨b,o,none⟩) (r.length+1) c):=hB.cell rfl;have hle:=h.le;have hlt:=h.lt;refine fun2_of_vc Tryz.func185 rfl (by kernel_rfl) [.tmp 2] rfl ?_;push_cast -dsimp(maxSteps:=4000000) [Tryz.ntmps185];push_cast -dsimp[cb,Nat.zero_mul,Nat.add_zero,c3];refine⟨by omega,?_⟩
 refine allocK (z:=[.int .i64 0,str [],.int .i64 0]) (by kernel_rfl) ?_;intro w1 hw1;have B1:=hw1.blk;have P1:=h.below hw1.below;have z1:=hw1.size;have b1:=hw1.below;push_cast -dsimp;refine storeAgg (xt:=136) (n:=3) (by kernel_rfl) B1 rfl (by decide) (by simp;exact⟨rfl,rfl,rfl⟩) ?_;intro w2 hw2;have B2:Blk w2 w.heap.size 136 [.int .i64 t.kind,str t.text,.int .i64 t.pos]:=hw2.blk
 have P2:=P1.kept hw2.kept (fun i hi=>by omega);have z2:=hw2.size;have b2:=b1.trans (hw2.kept.below (B:=w.heap.size) (by omega) (fun i h=>by omega));have k2:Kept (·=pb) w w2:=Kept.of_below b2 (fun i h1 h2=>by omega);have d0:w2.cell? ⟨w.heap.size,0,none⟩=some (.int .i64 t.kind):=B2.cell rfl;have d1:w2.cell? ⟨w.heap.size,1,none⟩=some (str t.text):=B2.cell rfl;push_cast -dsimp[d0]
 refine⟨fun hk=>?_,fun hk=>?_⟩
 ·have hk2:isKind 2 (t::r)=false:=by
   have:t.kind≠2:=fun e=>hk (by omega);simp[isKind,Cae.hd,this]
  refine callP_of (fail_c 3 P2) (fun _ _ h=>h.elim) ?_;rintro c w4 ⟨ht,hb⟩;push_cast -dsimp;exact⟨3,_,by unfold timesP pif;rw[hk2];rfl,ht.mono (by omega),k2.trans (Kept.of_below hb (X:=(·=pb)) (fun i h1 h2=>by omega)) (fun i _ h=>h)⟩
 ·have hkk:t.kind=2:=by omega
  have hk2:isKind 2 (t::r)=true:=by simp[isKind,Cae.hd,hkk]
  have hnum:=h.tl.num t (by simp) hkk;push_cast -dsimp[d1];refine callK_of (atoi_c t.text (h.tl.txt t (by simp)) hnum.1 hnum.2 w2 P2.er) ?_;rintro rv w3 ⟨hr,b3⟩;have P3:=P2.below b3;have z3:=b3.size;have k3:Kept (·=pb) w w3:=k2.trans (Kept.of_below b3 (X:=(·=pb)) (fun i h1 h2=>by omega)) (fun i _ h=>h);have herr:12<decV t.text→timesP (t::r)=.error (4,(Cae.hd (t::r)).pos):=fun h12=>by
   unfold timesP pif;rw[hk2];simp[Cae.pb,peek,Cae.hd,h12,pfail]
  rcases hr with rfl|⟨h12,v,t',p,rfl⟩
  ·push_cast -dsimp;refine⟨fun hh=>?_,fun hh=>?_⟩
   ·refine callP_of (fail_c 4 P3) (fun _ _ h=>h.elim) ?_;rintro c w4 ⟨ht,hb⟩;push_cast -dsimp;exact⟨4,_,herr (by omega),ht.mono (by omega),k3.trans (Kept.of_below hb (X:=(·=pb)) (fun i h1 h2=>by omega)) (fun i _ h=>h)⟩
   ·have h5:t.kind≠5:=by omega
    obtain⟨b4,o4,c4,hB4,hc4,hne4,_,_,_,_⟩:=P3.hd;have cb4:w3.cell? ⟨pb,0,none⟩=some (.slice (some ⟨b4,o4,none⟩) (r.length+1) c4):=hB4.cell rfl;push_cast -dsimp[cb4,slice1];refine⟨by omega,?_⟩;refine storeK_of hB4 (by simp) rfl ?_;intro w4 hw4;have P4:=P3.pop hB4 h5 hw4;have k4:=k3.trans hw4.kept (fun i _ h=>h);push_cast -dsimp;have h12:¬12<decV t.text:=by omega
    exact⟨decV t.text,r,by unfold timesP pif;rw[hk2];simp[Cae.pb,peek,Cae.hd,h12,popP,h5,pr],⟨rfl,by omega⟩,P4,k4⟩
  ·push_cast -dsimp;refine callP_of (fail_c 4 P3) (fun _ _ h=>h.elim) ?_;rintro c w4 ⟨ht,hb⟩;push_cast -dsimp;exact⟨4,_,herr (by omega),ht.mono (by omega),k3.trans (Kept.of_below hb (X:=(·=pb)) (fun i h1 h2=>by omega)) (fun i _ h=>h)⟩
end Go.Proofs.YtledlfbbebodgaaGreatDoor
end
section
namespace Go.Proofs.YtledlfbbebodgaaGreatDoor
open Go.Vc Go.Proofs Go.RowKit Cae
attribute [local irreducible] wpL callK valK unitK runK Fun Sl Vc.Own vc vcOps opK pureK
def ptrP (b:Nat):Value:=.pointer (some ⟨b,0,none⟩)
def encP (b:Nat):List Value:=[ptrP b]
theorem encP_one (b:Nat):∀u∈encP b,u.oneCell'=true:=by
 intro u hu;simp[encP,ptrP]at hu;subst hu;rfl
mutual
def PatV (X:Nat→Prop)(w:World):Value→PatP→Prop
 | v,.one k=>∃b u,v=.pointer (some ⟨b,0,none⟩)∧¬X b∧Blk w b 39 [.int .i64 1,u,.slice none 0 0,.int .i64 0,.int .i64 0]∧KindV X w u k
 | v,.any=>∃b,v=.pointer (some ⟨b,0,none⟩)∧¬X b∧Blk w b 39 [.int .i64 2,.pointer none,.slice none 0 0,.int .i64 0,.int .i64 0]
 | v,.edge=>∃b,v=.pointer (some ⟨b,0,none⟩)∧¬X b∧Blk w b 39 [.int .i64 3,.pointer none,.slice none 0 0,.int .i64 0,.int .i64 0]
 | v,.cat l=>∃b sv vs,v=.pointer (some ⟨b,0,none⟩)∧¬X b∧Blk w b 39 [.int .i64 4,.pointer none,sv,.int .i64 0,.int .i64 0]∧Sl X 1 (En encP) w sv vs∧PatsV X w vs l
 | v,.alt l=>∃b sv vs,v=.pointer (some ⟨b,0,none⟩)∧¬X b∧Blk w b 39 [.int .i64 5,.pointer none,sv,.int .i64 0,.int .i64 0]∧Sl X 1 (En encP) w sv vs∧PatsV X w vs l
 | v,.many x lo hi=>∃b sv u,v=.pointer (some ⟨b,0,none⟩)∧¬X b∧Blk w b 39 [.int .i64 6,.pointer none,sv,.int .i64 lo,.int .i64 hi]∧Sl X 1 (En encP) w sv [u]∧PatV X w (ptrP u) x
def PatsV (X:Nat→Prop)(w:World):List Nat→List PatP→Prop
 | [],[]=>True
 | v::vs,x::l=>PatV X w (ptrP v) x∧PatsV X w vs l
 | _,_=>False
end
mutual
theorem PatV.mono {X X' Y:Nat→Prop}{w w':World}(hk:Kept Y w w')(hY:∀i,Y i→X i)(hX:∀i,X' i→X i):∀{x:PatP} {v:Value},PatV X w v x→PatV X' w' v x
 | .one k,v,h=>by
  simp only[PatV]at h ⊢;obtain⟨b,u,hv,hb,hB,h⟩:=h;exact⟨b,u,hv,fun hh=>hb (hX b hh),hB.kept hk (fun hh=>hb (hY b hh)),h.mono hk hY hX⟩
 | .any,v,h=>by
  simp only[PatV]at h ⊢;obtain⟨b,hv,hb,hB⟩:=h;exact⟨b,hv,fun hh=>hb (hX b hh),hB.kept hk (fun hh=>hb (hY b hh))⟩
 | .edge,v,h=>by
  simp only[PatV]at h ⊢;obtain⟨b,hv,hb,hB⟩:=h;exact⟨b,hv,fun hh=>hb (hX b hh),hB.kept hk (fun hh=>hb (hY b hh))⟩
 | .cat l,v,h=>by
  simp only[PatV]at h ⊢;obtain⟨b,sv,vs,hv,hb,hB,hs,h⟩:=h;exact⟨b,sv,vs,hv,fun hh=>hb (hX b hh),hB.kept hk (fun hh=>hb (hY b hh)),(hs.kept hk hY).weaken hX,PatsV.mono hk hY hX h⟩
 | .alt l,v,h=>by
  simp only[PatV]at h ⊢;obtain⟨b,sv,vs,hv,hb,hB,hs,h⟩:=h;exact⟨b,sv,vs,hv,fun hh=>hb (hX b hh),hB.kept hk (fun hh=>hb (hY b hh)),(hs.kept hk hY).weaken hX,PatsV.mono hk hY hX h⟩
 | .many x lo hi,v,h=>by
  simp only[PatV]at h ⊢;obtain⟨b,sv,u,hv,hb,hB,hs,h⟩:=h;exact⟨b,sv,u,hv,fun hh=>hb (hX b hh),hB.kept hk (fun hh=>hb (hY b hh)),(hs.kept hk hY).weaken hX,PatV.mono hk hY hX h⟩
theorem PatsV.mono {X X' Y:Nat→Prop}{w w':World}(hk:Kept Y w w')(hY:∀i,Y i→X i)(hX:∀i,X' i→X i):∀{l:List PatP} {vs:List Nat},PatsV X w vs l→PatsV X' w' vs l
 | [],[],_=>by simp only[PatsV]
 | [],_::_,h=>by simp only[PatsV]at h
 | _::_,[],h=>by simp only[PatsV]at h
 | x::l,v::vs,h=>by
  simp only[PatsV]at h ⊢;exact⟨PatV.mono hk hY hX h.1,PatsV.mono hk hY hX h.2⟩
end
mutual
theorem PatV.top {X:Nat→Prop}{w:World}:∀{x:PatP} {v:Value},PatV X w v x→PatV (fun b=>X b∨w.heap.size≤b) w v x
 | .one k,v,h=>by
  simp only[PatV]at h ⊢;obtain⟨b,u,hv,hb,hB,h⟩:=h;exact⟨b,u,hv,fun hh=>hh.elim hb (fun hh=>by have:=hB.lt;omega),hB,h.top⟩
 | .any,v,h=>by
  simp only[PatV]at h ⊢;obtain⟨b,hv,hb,hB⟩:=h;exact⟨b,hv,fun hh=>hh.elim hb (fun hh=>by have:=hB.lt;omega),hB⟩
 | .edge,v,h=>by
  simp only[PatV]at h ⊢;obtain⟨b,hv,hb,hB⟩:=h;exact⟨b,hv,fun hh=>hh.elim hb (fun hh=>by have:=hB.lt;omega),hB⟩
 | .cat l,v,h=>by
  simp only[PatV]at h ⊢;obtain⟨b,sv,vs,hv,hb,hB,hs,h⟩:=h;exact⟨b,sv,vs,hv,fun hh=>hh.elim hb (fun hh=>by have:=hB.lt;omega),hB,Sl.top (by decide) hs,PatsV.top h⟩
 | .alt l,v,h=>by
  simp only[PatV]at h ⊢;obtain⟨b,sv,vs,hv,hb,hB,hs,h⟩:=h;exact⟨b,sv,vs,hv,fun hh=>hh.elim hb (fun hh=>by have:=hB.lt;omega),hB,Sl.top (by decide) hs,PatsV.top h⟩
 | .many x lo hi,v,h=>by
  simp only[PatV]at h ⊢;obtain⟨b,sv,u,hv,hb,hB,hs,h⟩:=h;exact⟨b,sv,u,hv,fun hh=>hh.elim hb (fun hh=>by have:=hB.lt;omega),hB,Sl.top (by decide) hs,PatV.top h⟩
theorem PatsV.top {X:Nat→Prop}{w:World}:∀{l:List PatP} {vs:List Nat},PatsV X w vs l→PatsV (fun b=>X b∨w.heap.size≤b) w vs l
 | [],[],_=>by simp only[PatsV]
 | [],_::_,h=>by simp only[PatsV]at h
 | _::_,[],h=>by simp only[PatsV]at h
 | x::l,v::vs,h=>by
  simp only[PatsV]at h ⊢;exact⟨PatV.top h.1,PatsV.top h.2⟩
end
theorem PatV.ptr {X:Nat→Prop}{w:World}{x:PatP}{v:Value}(h:PatV X w v x):∃b,v=.pointer (some ⟨b,0,none⟩)∧b<w.heap.size∧¬X b:=by
 cases x<;>simp only[PatV]at h
 ·obtain⟨b,u,hv,hx,hB,_⟩:=h;exact⟨b,hv,hB.lt,hx⟩
 ·obtain⟨b,hv,hx,hB⟩:=h;exact⟨b,hv,hB.lt,hx⟩
 ·obtain⟨b,hv,hx,hB⟩:=h;exact⟨b,hv,hB.lt,hx⟩
 ·obtain⟨b,_,_,hv,hx,hB,_⟩:=h;exact⟨b,hv,hB.lt,hx⟩
 ·obtain⟨b,_,_,hv,hx,hB,_⟩:=h;exact⟨b,hv,hB.lt,hx⟩
 ·obtain⟨b,_,_,hv,hx,hB,_⟩:=h;exact⟨b,hv,hB.lt,hx⟩
theorem PatV.below {X:Nat→Prop}{w w':World}{x:PatP}{v:Value}(h:PatV X w v x)(hb:Below w.heap.size w w'):PatV X w' v x :=
 h.mono (X:=X) (Kept.of_below hb (X:=fun _=>False) (fun i h1 h2=>by omega)) (fun _ h=>h.elim) (fun _ h=>h)
theorem PatsV.snoc {X:Nat→Prop}{w:World}:∀{l:List PatP} {vs:List Nat} {x:PatP} {v:Nat},PatsV X w vs l→PatV X w (ptrP v) x→PatsV X w (vs++[v]) (l++[x])
 | [],[],_,_,_,hx=>by
  simp only[List.nil_append,PatsV];exact⟨hx,trivial⟩
 | [],_::_,_,_,h,_=>by simp only[PatsV]at h
 | _::_,[],_,_,h,_=>by simp only[PatsV]at h
 | x::l,v::vs,y,u,h,hx=>by
  simp only[PatsV,List.cons_append]at h ⊢;exact⟨h.1,PatsV.snoc h.2 hx⟩
theorem PatsV.len {X:Nat→Prop}{w:World}:∀{l:List PatP} {vs:List Nat},PatsV X w vs l→vs.length=l.length
 | [],[],_=>rfl
 | [],_::_,h=>by simp only[PatsV]at h
 | _::_,[],h=>by simp only[PatsV]at h
 | x::l,v::vs,h=>by
  simp only[PatsV]at h;simp[PatsV.len h.2]
def UnitC (d:Nat):Prop:=∀(n:Int),0≤n→n+(d:Int)=9→∀(pb B:Nat) (w:World) (l:List Tok),PS pb B w l→Pc 184 [.pointer (some ⟨pb,0,none⟩),.int .i64 n] pb B w l (unitP d) (fun w' r x=>PatV (·<w.heap.size) w' r x)
def AgainC (d:Nat):Prop:=∀(n:Int),0≤n→n+(d:Int)=9→∀(pb B:Nat) (w:World) (l:List Tok),PS pb B w l→Pc 161 [.pointer (some ⟨pb,0,none⟩),.int .i64 n] pb B w l (againW d (unitP d)) (fun w' r x=>PatV (·<w.heap.size) w' r x)
def RowC (d:Nat):Prop:=∀(n:Int),0≤n→n+(d:Int)=9→∀(pb B:Nat) (w:World) (l:List Tok),PS pb B w l→Pc 134 [.pointer (some ⟨pb,0,none⟩),.int .i64 n] pb B w l (rowW (againW d (unitP d))) (fun w' r x=>PatV (·<w.heap.size) w' r x)
def PatC (d:Nat):Prop:=∀(n:Int),0≤n→n+(d:Int)=9→∀(pb B:Nat) (w:World) (l:List Tok),PS pb B w l→Pc 99 [.pointer (some ⟨pb,0,none⟩),.int .i64 n] pb B w l (patP d) (fun w' r x=>PatV (·<w.heap.size) w' r x)
theorem unit_zero:UnitC 0:=by
 intro n hn0 hn pb B w l h;refine fun2_of_vc Tryz.func184 rfl (by kernel_rfl) [.tmp 4] rfl ?_;push_cast -dsimp(maxSteps:=4000000) [Tryz.ntmps184];refine callP_of (deep_c n h) ?_ ?_
 ·rintro _ _ ⟨h8,rfl,rfl⟩;omega
 ·rintro c w' ⟨h8,ht,hb⟩;push_cast -dsimp;exact⟨4,_,rfl,ht,Kept.of_below hb (fun i h1 h2=>by omega)⟩
theorem unit_succ (d:Nat)(ihp:PatC d):UnitC (d+1):=by
 intro n hn0 hn pb B w l0 h0;obtain⟨t,r,hl0⟩:=h0.tl.cons;have hhd:Cae.hd l0=t:=by rw[hl0];rfl
 have h0':=h0;rw[hl0]at h0';obtain⟨b,o,c,hB,hc,hne,c0,c1,c2,c3⟩:=h0'.hd;have cb:w.cell? ⟨pb,0,none⟩=some (.slice (some ⟨b,o,none⟩) (r.length+1) c):=hB.cell rfl;have hle:=h0.le;have hlt:=h0.lt;have hunf:unitP (d+1) l0=pif (seeP [46]) (Cae.pb popP fun _=>pr .any)
  (pif (seeP [36]) (Cae.pb popP fun _=>pr .edge)
  (pif (seeP [40]) (Cae.pb popP fun _=>Cae.pb (patP d) fun x=>Cae.pb (mustP [41]) fun _=>pr x)
  (pif unitStart (Cae.pb (oneP (d+1)) fun k=>pr (.one k)) (pfail 3)))) l0:=rfl
 refine fun2_of_vc Tryz.func184 rfl (by kernel_rfl) [.tmp 4] rfl ?_;push_cast -dsimp(maxSteps:=4000000) [Tryz.ntmps184];refine callP_of (deep_c n h0) ?_ (fun c w' hh=>by have:=hh.1;omega);rintro _ w0 ⟨h8,rfl,hw0⟩;obtain rfl:w=w0:=hw0.symm;push_cast -dsimp;refine callK_of (take_c [46] h0) ?_;rintro _ w2 hT;rcases hT with ⟨hs1,rfl,t1,r1,el1,h51,P2,kt,hz⟩|⟨hs1,rfl,hww⟩
 ·have hpop:popP l0=.ok ((),r1):=by rw[el1];exact popP_cons h51
  push_cast -dsimp;refine boxK_of ?_;intro w3 hw3;have B3:Blk w3 w2.heap.size 39 [.int .i64 2,.pointer none,.slice none 0 0,.int .i64 0,.int .i64 0]:=hw3.blk;have P3:=P2.below hw3.below;have k3:=kt.trans (Kept.new (X:=(·=pb)) hw3) (fun i _ h=>h);push_cast -dsimp;refine⟨.any,r1,?_,?_,P3,k3⟩
  ·rw[hunf];unfold pif;rw[hs1,if_pos rfl,pb_of hpop];rfl
  ·simp only[PatV];exact⟨_,rfl,by omega,B3⟩
 ·obtain rfl:w=w2:=hww.symm;push_cast -dsimp;refine callK_of (take_c [36] h0) ?_;rintro _ w2 hT;rcases hT with ⟨hs2,rfl,t1,r1,el1,h51,P2,kt,hz⟩|⟨hs2,rfl,hww⟩
  ·have hpop:popP l0=.ok ((),r1):=by rw[el1];exact popP_cons h51
   push_cast -dsimp;refine boxK_of ?_;intro w3 hw3;have B3:Blk w3 w2.heap.size 39 [.int .i64 3,.pointer none,.slice none 0 0,.int .i64 0,.int .i64 0]:=hw3.blk;have P3:=P2.below hw3.below;have k3:=kt.trans (Kept.new (X:=(·=pb)) hw3) (fun i _ h=>h);push_cast -dsimp;refine⟨.edge,r1,?_,?_,P3,k3⟩
   ·rw[hunf];unfold pif;rw[hs1,hs2,if_neg (by decide),if_pos rfl,pb_of hpop];rfl
   ·simp only[PatV];exact⟨_,rfl,by omega,B3⟩
  ·obtain rfl:w=w2:=hww.symm;push_cast -dsimp;refine callK_of (take_c [40] h0) ?_;rintro _ w2 hT;rcases hT with ⟨hs3,rfl,t1,r1,el1,h51,P2,kt,hz⟩|⟨hs3,rfl,hww⟩
   ·have hpop:popP l0=.ok ((),r1):=by rw[el1];exact popP_cons h51
    have hred:unitP (d+1) l0=Cae.pb (patP d) (fun x=>Cae.pb (mustP [41]) fun _=>pr x) r1:=by
     rw[hunf];unfold pif;rw[hs1,hs2,hs3,if_neg (by decide),if_neg (by decide),if_pos rfl,pb_of hpop]
    push_cast -dsimp;refine⟨⟨by omega,by omega⟩,?_⟩;refine callP_of (ihp (n+1) (by omega) (by omega) pb B w2 r1 P2) ?_ ?_
    ·rintro u w3 ⟨x,l3,e3,V3,P3,k3⟩;push_cast -dsimp;refine callP_of (must_c [41] P3) ?_ ?_
     ·rintro _ w4 ⟨_,l4,e4,rfl,P4,k4⟩;push_cast -dsimp;have z3:=k3.size;refine⟨x,l4,?_,V3.mono k4 (fun i h=>by omega) (fun i h=>by omega),P4,(kt.trans k3 (fun i _ h=>h)).trans k4 (fun i _ h=>h)⟩;rw[hred,pb_of e3,pb_of e4];rfl
     ·rintro c w4 ⟨e,pos,he,ht,hk⟩;push_cast -dsimp;have z3:=k3.size;refine⟨e,pos,?_,ht.mono (by omega),(kt.trans k3 (fun i _ h=>h)).trans hk (fun i _ h=>h)⟩;rw[hred,pb_of e3];unfold Cae.pb;rw[he]
    ·rintro c w3 ⟨e,pos,he,ht,hk⟩;push_cast -dsimp;refine⟨e,pos,?_,ht.mono (by omega),kt.trans hk (fun i _ h=>h)⟩;rw[hred];unfold Cae.pb;rw[he]
   ·obtain rfl:w=w2:=hww.symm;have hus:unitStart l0=(t.kind == 3 || namedP l0):=by unfold unitStart isKind;rw[hhd]
    push_cast -dsimp[cb,c0];have hone:unitStart l0=true→unitP (d+1) l0=Cae.pb (oneP (d+1)) (fun k=>pr (.one k)) l0:=fun hu=>by
     rw[hunf];unfold pif;rw[hs1,hs2,hs3,hu,if_neg (by decide),if_neg (by decide),if_neg (by decide),if_pos rfl]
    refine⟨by omega,fun h3=>?_,fun h3=>?_⟩
    ·refine callK_of (named_c h0) ?_;rintro _ w1 ⟨rfl,b1⟩;have P1:=h0.below b1;have k1:Kept (·=pb) w w1:=Kept.of_below b1 (fun i h1 h2=>by omega);have z1:=b1.size;have hk3:(t.kind == 3)=false:=by
      have:t.kind≠3:=fun e=>h3 (by omega);simpa using this
     rw[hk3,Bool.false_or]at hus;cases hnm:namedP l0 with
     | true =>
      have hred:=hone (by rw[hus,hnm]);push_cast -dsimp;refine callP_of (one_c (d+1) n (by omega) (by omega) pb B w1 l0 P1) ?_ ?_
      ·rintro u w3 ⟨k,l3,e3,V3,P3,k3⟩;obtain⟨ub,rfl,hub⟩:=V3.ptr;push_cast -dsimp;refine boxK_of ?_;intro w4 hw4;have B4:Blk w4 w3.heap.size 39 [.int .i64 1,.pointer (some ⟨ub,0,none⟩),.slice none 0 0,.int .i64 0,.int .i64 0]:=hw4.blk;have P4:=P3.below hw4.below;have z3:=k3.size;have k4:=(k1.trans k3 (fun i _ h=>h)).trans (Kept.new (X:=(·=pb)) hw4) (fun i _ h=>h);push_cast -dsimp
       refine⟨.one k,l3,?_,?_,P4,k4⟩
       ·rw[hred,pb_of e3];rfl
       ·simp only[PatV];exact⟨_,_,rfl,by omega,B4,V3.mono (Kept.new (X:=fun _=>False) hw4) (fun _ h=>h.elim) (fun i h=>by omega)⟩
      ·rintro c w3 ⟨e,pos,he,ht,hk⟩;push_cast -dsimp;refine⟨e,pos,?_,ht.mono (by omega),k1.trans hk (fun i _ h=>h)⟩;rw[hred];unfold Cae.pb;rw[he]
     | false =>
      push_cast -dsimp;refine callP_of (fail_c 3 P1) (fun _ _ h=>h.elim) ?_;rintro c w4 ⟨ht,hb⟩;push_cast -dsimp;refine⟨3,_,?_,ht.mono (by omega),k1.trans (Kept.of_below hb (X:=(·=pb)) (fun i h1 h2=>by omega)) (fun i _ h=>h)⟩;rw[hunf];unfold pif;rw[hs1,hs2,hs3,hus,hnm,if_neg (by decide),if_neg (by decide),if_neg (by decide),if_neg (by decide)];rfl
    ·have hred:=hone (by
      have:t.kind=3:=by omega
      rw[hus,this];rfl)
     have k1:Kept (·=pb) w w:=Kept.refl _ _;have z1:w.heap.size≤w.heap.size:=Nat.le_refl _;refine callP_of (one_c (d+1) n (by omega) (by omega) pb B w l0 h0) ?_ ?_
     ·rintro u w3 ⟨k,l3,e3,V3,P3,k3⟩;obtain⟨ub,rfl,hub⟩:=V3.ptr;push_cast -dsimp;refine boxK_of ?_;intro w4 hw4;have B4:Blk w4 w3.heap.size 39 [.int .i64 1,.pointer (some ⟨ub,0,none⟩),.slice none 0 0,.int .i64 0,.int .i64 0]:=hw4.blk;have P4:=P3.below hw4.below;have z3:=k3.size;have k4:=(k1.trans k3 (fun i _ h=>h)).trans (Kept.new (X:=(·=pb)) hw4) (fun i _ h=>h);push_cast -dsimp
      refine⟨.one k,l3,?_,?_,P4,k4⟩
      ·rw[hred,pb_of e3];rfl
      ·simp only[PatV];exact⟨_,_,rfl,by omega,B4,V3.mono (Kept.new (X:=fun _=>False) hw4) (fun _ h=>h.elim) (fun i h=>by omega)⟩
     ·rintro c w3 ⟨e,pos,he,ht,hk⟩;push_cast -dsimp;refine⟨e,pos,?_,ht.mono (by omega),k1.trans hk (fun i _ h=>h)⟩;rw[hred];unfold Cae.pb;rw[he]
theorem sl_blk1 {w:World}{b:Nat}{e:TypeId}{u:Nat}{X:Nat→Prop}(h:Blk w b e [ptrP u])(hb:¬X b):Sl X 1 (En encP) w (.slice (some ⟨b,0,none⟩) 1 1) [u]:=by
 unfold Sl;refine⟨_,1,rfl,by simp,fun i x hx=>⟨b,0,encP u,rfl,hb,rfl,fun j y hy=>?_,?_⟩⟩
 ·have hi:i=0:=by
   have:=(List.getElem?_eq_some_iff.1 hx).1;simp at this;exact this
  have hj:j=0:=by
   have:=(List.getElem?_eq_some_iff.1 hy).1;simp[encP]at this;exact this
  subst hi hj;simp[encP]at hy;subst hy;exact h.cell rfl
 ·have hi:i=0:=by
   have:=(List.getElem?_eq_some_iff.1 hx).1;simp at this;exact this
  subst hi;simp at hx;subst hx;rfl
theorem again_err {d m c : Nat} {x : PatP} {l : List Tok} {e : Nat × Nat} (hm : l.length < m) (h : suffixP l = .error e) : againLoop d m c x l = .error e := by
  obtain ⟨m', rfl⟩ : ∃ m', m = m' + 1 := ⟨m - 1, by omega⟩
  rw [againLoop]
  unfold Cae.pb
  rw [h]
theorem again_of (d : Nat) (hu : UnitC d) : AgainC d := by
  intro n hn0 hn pb B w l0 h0
  have hle := h0.le
  have hlt := h0.lt
  refine fun2_of_vc Tryz.func161 rfl (by kernel_rfl) [.tmp 4] rfl ?_
  push_cast -dsimp (maxSteps := 4000000) [Tryz.ntmps161]
  refine callP_of (hu n hn0 hn pb B w l0 h0) ?_ ?_
  · rintro v1 w1 ⟨x0, l1, e1, V1, P1, hk1⟩
    have hstart : againW d (unitP d) l0 = againLoop d 1000 0 x0 l1 := by
      unfold againW
      rw [pb_of e1]
    push_cast -dsimp
    refine wpL_loop [4, 5, 6, 7, 12, 13, 14, 15, 16, 17, 18, 19, 20, 21, 22, 23, 24, 25, 26, 27, 28, 29, 30, 31, 32, 33, 34, 35, 36, 37, 38, 39, 40, 41, 42, 43, 44, 45, 46, 47, 48, 49, 50, 51, 52, 53, 54, 55, 56, 57, 58, 59, 60, 61, 62, 63, 64, 65, 66, 67, 68, 69, 70, 71, 72, 73, 74, 75, 76, 77, 78, 79, 80, 81, 82, 83] (fun z w' => ∃ (m c : Nat) (x : PatP) (l1 : List Tok) (i : Int), againLoop d m c x l1 = againW d (unitP d) l0 ∧ l1.length < m ∧ (z 6 = .int .i64 i ∧ i = n + (c : Int) ∧ i ≤ 9) ∧ PatV (· < w.heap.size) w' (z 5) x ∧ PS pb B w' l1 ∧ Kept (· = pb) w w') (fun z w' => lenAt w' pb) ?_ ?_
    · have hlt : l1.length < 1000 := by have := P1.tl.len; omega
      exact ⟨1000, 0, x0, l1, n, hstart.symm, hlt, ⟨rfl, by omega, by omega⟩, V1, P1, hk1⟩
    rintro z w' ⟨m, c, x, l1, i, hm2, hm, ⟨hz6, hi, hi9⟩, V1, hP1, hkw⟩
    obtain ⟨kb, hz5, hkb, hkX⟩ := V1.ptr
    rw [hz5] at V1
    obtain ⟨t1, r1, el1⟩ := hP1.tl.cons
    have hzw := hkw.size
    push_cast -dsimp [hz5]
    refine rowK elI_37 rfl rfl (by omega) ?_
    intro w2 hw2
    have BX0 : Blk w2 w'.heap.size 35 [.pointer (some ⟨kb, 0, none⟩)] := hw2.blk
    have P2 := hP1.below hw2.below
    have z2 := hw2.size
    have k2 := hkw.trans (Kept.new (X := (· = pb)) hw2) (fun i _ h => h)
    push_cast -dsimp
    refine boxK_of ?_
    intro w3 hw3
    have BY0 : Blk w3 (w'.heap.size + 1) 39 [.int .i64 6, .pointer none, .slice (some ⟨w'.heap.size, 0, none⟩) 1 1, .int .i64 0, .int .i64 (-1)] := by
      have := hw3.blk
      rw [z2] at this
      exact this
    have BX3 := BX0.below hw3.below (by omega)
    have P3 := P2.below hw3.below
    have z3 := hw3.size
    have k3 := k2.trans (Kept.new (X := (· = pb)) hw3) (fun i _ h => h)
    have V3 : PatV (fun b => b < w.heap.size ∨ w'.heap.size ≤ b) w3 (.pointer (some ⟨kb, 0, none⟩)) x := (V1.top.below hw2.below).below hw3.below
    push_cast -dsimp [z2]
    refine callK_of (take_c [42] P3) ?_
    rintro _ w4 hT
    rcases hT with ⟨hs1, rfl, t4, l2, el4, h51, P4, kt, hz4⟩ | ⟨hs1, rfl, hww⟩
    · have hpop : popP l1 = .ok ((), l2) := by rw [el4]; exact popP_cons h51
      have hl2 : l1.length = l2.length + 1 := by rw [el4, List.length_cons]
      have hsuf : suffixP l1 = .ok (some (0, -1), l2) := by
        unfold suffixP pif
        rw [hs1, if_pos rfl, pb_of hpop]
        rfl
      have BY := BY0.kept kt (by omega)
      have BX := BX3.kept kt (by omega)
      have kS := k3.trans kt (fun i _ h => h)
      have VX := V3.mono (X' := (· < w.heap.size)) kt (fun i h => by omega) (fun i h => .inl h)
      push_cast -dsimp [hz6]
      -- a round's end: lo, hi; tokens l2; world wS; y's cells BY; kS : Kept (· = pb) w wS
      have hm1 : ∃ m', m = m' + 1 := ⟨m - 1, by omega⟩
      obtain ⟨m', hmm⟩ := hm1
      have hag : againW d (unitP d) l0 = if d ≤ c + 1 then pfail 4 l2 else againLoop d m' (c + 1) (.many x 0 (-1)) l2 := by
        rw [← hm2, hmm, againLoop, pb_of hsuf]
        dsimp only
        split <;> rfl
      refine ⟨⟨by omega, by omega⟩, ?_⟩
      refine callP_of (deep_c (i + 1) P4) ?_ ?_
      · rintro _ w0 ⟨h8, rfl, hw0⟩
        obtain rfl : w4 = w0 := hw0.symm
        have hlen4 := PS.len P4
        have hlen1 := hP1.len
        have hzS := kS.size
        push_cast -dsimp [hz5]
        refine ⟨⟨m', c + 1, .many x 0 (-1), l2, i + 1, ?_, by omega, ⟨rfl, by omega, by omega⟩, ?_, P4, kS⟩, by rw [hlen4, hlen1]; omega⟩
        · rw [hag, if_neg (by omega)]
        · simp only [PatV]
          exact ⟨_, _, _, rfl, by omega, BY, sl_blk1 BX (by omega), VX⟩
      · rintro ce w0 ⟨h8, ht, hb⟩
        push_cast -dsimp
        refine ⟨4, _, ?_, ht.mono (by have := kS.size; omega), kS.trans (Kept.of_below hb (X := (· = pb)) (fun i h1 h2 => by omega)) (fun i _ h => h)⟩
        rw [hag, if_pos (by omega)]
        rfl
    · obtain rfl : w3 = w4 := hww.symm
      push_cast -dsimp
      refine callK_of (take_c [43] P3) ?_
      rintro _ w4 hT
      rcases hT with ⟨hs2, rfl, t4, l2, el4, h51, P4, kt, hz4⟩ | ⟨hs2, rfl, hww⟩
      · have hpop : popP l1 = .ok ((), l2) := by rw [el4]; exact popP_cons h51
        have hl2 : l1.length = l2.length + 1 := by rw [el4, List.length_cons]
        have hsuf : suffixP l1 = .ok (some (1, -1), l2) := by
          unfold suffixP pif
          rw [hs1, hs2, if_neg (by decide), if_pos rfl, pb_of hpop]
          rfl
        have BY4 := BY0.kept kt (by omega)
        have BX4 := BX3.kept kt (by omega)
        have k4 := k3.trans kt (fun i _ h => h)
        have V4 := V3.mono (X' := fun b => b < w.heap.size ∨ w'.heap.size ≤ b) kt (fun i h => by omega) (fun i h => h)
        push_cast -dsimp
        refine storeK_of BY4 (by simp) rfl ?_
        intro w5 hw5
        have BY : Blk w5 (w'.heap.size + 1) 39 [.int .i64 6, .pointer none, .slice (some ⟨w'.heap.size, 0, none⟩) 1 1, .int .i64 1, .int .i64 (-1)] := hw5.blk
        have BX := BX4.kept hw5.kept (by omega)
        have P5 := P4.kept hw5.kept (fun i h => by omega)
        have kS := k4.trans hw5.kept (fun i h1 h2 => by omega)
        have VX := V4.mono (X' := (· < w.heap.size)) hw5.kept (fun i h => by omega) (fun i h => .inl h)
        push_cast -dsimp [hz6]
        -- a round's end: lo, hi; tokens l2; world wS; y's cells BY; kS : Kept (· = pb) w wS
        have hm1 : ∃ m', m = m' + 1 := ⟨m - 1, by omega⟩
        obtain ⟨m', hmm⟩ := hm1
        have hag : againW d (unitP d) l0 = if d ≤ c + 1 then pfail 4 l2 else againLoop d m' (c + 1) (.many x 1 (-1)) l2 := by
          rw [← hm2, hmm, againLoop, pb_of hsuf]
          dsimp only
          split <;> rfl
        refine ⟨⟨by omega, by omega⟩, ?_⟩
        refine callP_of (deep_c (i + 1) P5) ?_ ?_
        · rintro _ w0 ⟨h8, rfl, hw0⟩
          obtain rfl : w5 = w0 := hw0.symm
          have hlen4 := PS.len P5
          have hlen1 := hP1.len
          have hzS := kS.size
          push_cast -dsimp [hz5]
          refine ⟨⟨m', c + 1, .many x 1 (-1), l2, i + 1, ?_, by omega, ⟨rfl, by omega, by omega⟩, ?_, P5, kS⟩, by rw [hlen4, hlen1]; omega⟩
          · rw [hag, if_neg (by omega)]
          · simp only [PatV]
            exact ⟨_, _, _, rfl, by omega, BY, sl_blk1 BX (by omega), VX⟩
        · rintro ce w0 ⟨h8, ht, hb⟩
          push_cast -dsimp
          refine ⟨4, _, ?_, ht.mono (by have := kS.size; omega), kS.trans (Kept.of_below hb (X := (· = pb)) (fun i h1 h2 => by omega)) (fun i _ h => h)⟩
          rw [hag, if_pos (by omega)]
          rfl
      · obtain rfl : w3 = w4 := hww.symm
        push_cast -dsimp
        refine callK_of (take_c [63] P3) ?_
        rintro _ w4 hT
        rcases hT with ⟨hs3, rfl, t4, l2, el4, h51, P4, kt, hz4⟩ | ⟨hs3, rfl, hww⟩
        · have hpop : popP l1 = .ok ((), l2) := by rw [el4]; exact popP_cons h51
          have hl2 : l1.length = l2.length + 1 := by rw [el4, List.length_cons]
          have hsuf : suffixP l1 = .ok (some (0, 1), l2) := by
            unfold suffixP pif
            rw [hs1, hs2, hs3, if_neg (by decide), if_neg (by decide), if_pos rfl, pb_of hpop]
            rfl
          have BY4 := BY0.kept kt (by omega)
          have BX4 := BX3.kept kt (by omega)
          have k4 := k3.trans kt (fun i _ h => h)
          have V4 := V3.mono (X' := fun b => b < w.heap.size ∨ w'.heap.size ≤ b) kt (fun i h => by omega) (fun i h => h)
          push_cast -dsimp
          refine storeK_of BY4 (by simp) rfl ?_
          intro w5 hw5
          have BY : Blk w5 (w'.heap.size + 1) 39 [.int .i64 6, .pointer none, .slice (some ⟨w'.heap.size, 0, none⟩) 1 1, .int .i64 0, .int .i64 1] := hw5.blk
          have BX := BX4.kept hw5.kept (by omega)
          have P5 := P4.kept hw5.kept (fun i h => by omega)
          have kS := k4.trans hw5.kept (fun i h1 h2 => by omega)
          have VX := V4.mono (X' := (· < w.heap.size)) hw5.kept (fun i h => by omega) (fun i h => .inl h)
          push_cast -dsimp [hz6]
          -- a round's end: lo, hi; tokens l2; world wS; y's cells BY; kS : Kept (· = pb) w wS
          have hm1 : ∃ m', m = m' + 1 := ⟨m - 1, by omega⟩
          obtain ⟨m', hmm⟩ := hm1
          have hag : againW d (unitP d) l0 = if d ≤ c + 1 then pfail 4 l2 else againLoop d m' (c + 1) (.many x 0 1) l2 := by
            rw [← hm2, hmm, againLoop, pb_of hsuf]
            dsimp only
            split <;> rfl
          refine ⟨⟨by omega, by omega⟩, ?_⟩
          refine callP_of (deep_c (i + 1) P5) ?_ ?_
          · rintro _ w0 ⟨h8, rfl, hw0⟩
            obtain rfl : w5 = w0 := hw0.symm
            have hlen4 := PS.len P5
            have hlen1 := hP1.len
            have hzS := kS.size
            push_cast -dsimp [hz5]
            refine ⟨⟨m', c + 1, .many x 0 1, l2, i + 1, ?_, by omega, ⟨rfl, by omega, by omega⟩, ?_, P5, kS⟩, by rw [hlen4, hlen1]; omega⟩
            · rw [hag, if_neg (by omega)]
            · simp only [PatV]
              exact ⟨_, _, _, rfl, by omega, BY, sl_blk1 BX (by omega), VX⟩
          · rintro ce w0 ⟨h8, ht, hb⟩
            push_cast -dsimp
            refine ⟨4, _, ?_, ht.mono (by have := kS.size; omega), kS.trans (Kept.of_below hb (X := (· = pb)) (fun i h1 h2 => by omega)) (fun i _ h => h)⟩
            rw [hag, if_pos (by omega)]
            rfl
        · obtain rfl : w3 = w4 := hww.symm
          push_cast -dsimp
          refine callK_of (take_c [123] P3) ?_
          rintro _ w4 hT
          rcases hT with ⟨hs4, rfl, t4, l2, el4, h51, P4, kt, hz4⟩ | ⟨hs4, rfl, hww⟩
          · have hpop : popP l1 = .ok ((), l2) := by rw [el4]; exact popP_cons h51
            have hl2 : l1.length = l2.length + 1 := by rw [el4, List.length_cons]
            have hsx : suffixP l1 = Cae.pb bracesP (fun r => pr (some r)) l2 := by
              unfold suffixP pif
              rw [hs1, hs2, hs3, hs4, if_neg (by decide), if_neg (by decide), if_neg (by decide), if_pos rfl, pb_of hpop]
            have BY4 := BY0.kept kt (by omega)
            have BX4 := BX3.kept kt (by omega)
            have k4 := k3.trans kt (fun i _ h => h)
            have V4 := V3.mono (X' := fun b => b < w.heap.size ∨ w'.heap.size ≤ b) kt (fun i h => by omega) (fun i h => h)
            push_cast -dsimp
            refine callP_of (times_c P4) ?_ ?_
            · rintro _ w5 ⟨n1, l3, e3, ⟨rfl, hn1⟩, P5, kt5⟩
              have BY5 := BY4.kept kt5 (by omega)
              have BX5 := BX4.kept kt5 (by omega)
              have k5 := k4.trans kt5 (fun i _ h => h)
              have V5 := V4.mono (X' := fun b => b < w.heap.size ∨ w'.heap.size ≤ b) kt5 (fun i h => by omega) (fun i h => h)
              push_cast -dsimp
              refine storeK_of BY5 (by simp) rfl ?_
              intro w6 hw6
              have BY6 : Blk w6 (w'.heap.size + 1) 39 [.int .i64 6, .pointer none, .slice (some ⟨w'.heap.size, 0, none⟩) 1 1, .int .i64 n1, .int .i64 (-1)] := hw6.blk
              have cy6 : w6.cell? ⟨w'.heap.size + 1, 3, none⟩ = some (.int .i64 n1) := BY6.cell rfl
              push_cast -dsimp [cy6]
              refine storeK_of BY6 (by simp) rfl ?_
              intro w7 hw7
              have BY7 : Blk w7 (w'.heap.size + 1) 39 [.int .i64 6, .pointer none, .slice (some ⟨w'.heap.size, 0, none⟩) 1 1, .int .i64 n1, .int .i64 n1] := hw7.blk
              have k57 : Kept (· = w'.heap.size + 1) w5 w7 := hw6.kept.trans hw7.kept (fun i _ h => h)
              have BX7 := BX5.kept k57 (by omega)
              have P7 := P5.kept k57 (fun i h => by omega)
              have k7 := k5.trans k57 (fun i h1 h2 => by omega)
              have V7 := V5.mono (X' := fun b => b < w.heap.size ∨ w'.heap.size ≤ b) k57 (fun i h => by omega) (fun i h => h)
              push_cast -dsimp
              refine callK_of (take_c [44] P7) ?_
              rintro _ w8 hT
              rcases hT with ⟨hs5, rfl, t8, l4, el8, h58, P8, kt8, hz8⟩ | ⟨hs5, rfl, hww⟩
              · have hpop8 : popP l3 = .ok ((), l4) := by rw [el8]; exact popP_cons h58
                have BY8 := BY7.kept kt8 (by omega)
                have BX8 := BX7.kept kt8 (by omega)
                have k8 := k7.trans kt8 (fun i _ h => h)
                have V8 := V7.mono (X' := fun b => b < w.heap.size ∨ w'.heap.size ≤ b) kt8 (fun i h => by omega) (fun i h => h)
                have hbr1 : bracesP l2 = pif (isKind 2) (Cae.pb timesP fun hi => if hi < n1 then pfail 2 else Cae.pb (mustP [125]) fun _ => pr ((n1 : Int), (hi : Int))) (Cae.pb (mustP [125]) fun _ => pr ((n1 : Int), -1)) l4 := by
                  unfold bracesP
                  rw [pb_of e3]
                  show (if seeP [44] l3 then _ else _) = _
                  rw [hs5, if_pos rfl, pb_of hpop8]
                push_cast -dsimp
                refine storeK_of BY8 (by simp) rfl ?_
                intro w9 hw9
                have BY9 : Blk w9 (w'.heap.size + 1) 39 [.int .i64 6, .pointer none, .slice (some ⟨w'.heap.size, 0, none⟩) 1 1, .int .i64 n1, .int .i64 (-1)] := hw9.blk
                have BX9 := BX8.kept hw9.kept (by omega)
                have P9 := P8.kept hw9.kept (fun i h => by omega)
                have k9 := k8.trans hw9.kept (fun i h1 h2 => by omega)
                have V9 := V8.mono (X' := fun b => b < w.heap.size ∨ w'.heap.size ≤ b) hw9.kept (fun i h => by omega) (fun i h => h)
                obtain ⟨t9, r9, el9⟩ := P9.tl.cons
                have P9' := P9
                rw [el9] at P9'
                obtain ⟨b9, o9, c9, hB9, hc9, hne9, c90, _, _, _⟩ := P9'.hd
                have cb9 : w9.cell? ⟨pb, 0, none⟩ = some (.slice (some ⟨b9, o9, none⟩) (r9.length + 1) c9) := hB9.cell rfl
                push_cast -dsimp [cb9, c90]
                refine ⟨by omega, fun hk2 => ?_, fun hk2 => ?_⟩
                · have hik : isKind 2 l4 = true := by
                    have : t9.kind = 2 := by omega
                    rw [el9]; simp [isKind, Cae.hd, this]
                  have hbr2 : bracesP l2 = Cae.pb timesP (fun hi => if hi < n1 then pfail 2 else Cae.pb (mustP [125]) fun _ => pr ((n1 : Int), (hi : Int))) l4 := by
                    rw [hbr1]
                    unfold pif
                    rw [hik, if_pos rfl]
                  refine callP_of (times_c P9) ?_ ?_
                  · rintro _ wa ⟨n2, l5, e5, ⟨rfl, hn2⟩, Pa, kta⟩
                    have BYa := BY9.kept kta (by omega)
                    have BXa := BX9.kept kta (by omega)
                    have ka := k9.trans kta (fun i _ h => h)
                    have Va := V9.mono (X' := fun b => b < w.heap.size ∨ w'.heap.size ≤ b) kta (fun i h => by omega) (fun i h => h)
                    push_cast -dsimp
                    refine storeK_of BYa (by simp) rfl ?_
                    intro wb hwb
                    have BYb : Blk wb (w'.heap.size + 1) 39 [.int .i64 6, .pointer none, .slice (some ⟨w'.heap.size, 0, none⟩) 1 1, .int .i64 n1, .int .i64 n2] := hwb.blk
                    have BXb := BXa.kept hwb.kept (by omega)
                    have Pb := Pa.kept hwb.kept (fun i h => by omega)
                    have kb' := ka.trans hwb.kept (fun i h1 h2 => by omega)
                    have VB' := Va.mono (X' := fun b => b < w.heap.size ∨ w'.heap.size ≤ b) hwb.kept (fun i h => by omega) (fun i h => h)
                    push_cast -dsimp
                    refine wpL_drawN (fun w' => w' = wb.drew) mixed (by kernel_rfl) rfl ?_
                    have d3 : wb.drew.cell? ⟨w'.heap.size + 1, 3, none⟩ = some (.int .i64 n1) := BYb.drew.cell rfl
                    have d4 : wb.drew.cell? ⟨w'.heap.size + 1, 4, none⟩ = some (.int .i64 n2) := BYb.drew.cell rfl
                    have kd : Kept (fun _ => False) wb wb.drew := (Kept.refl _ _).drew
                    have BYd := BYb.kept kd (fun h => h)
                    have BXd := BXb.kept kd (fun h => h)
                    have Pd := Pb.kept kd (fun i h => h.elim)
                    have kdd := kb'.trans kd (fun i h1 h2 => h2.elim)
                    have VB := VB'.mono (X' := fun b => b < w.heap.size ∨ w'.heap.size ≤ b) kd (fun i h => h.elim) (fun i h => h)
                    push_cast -dsimp [d3, d4]
                    refine ⟨fun w'' h => by rw [h, d4]; exact rfl, fun w'' h => by rw [h, d3]; exact rfl, fun hlt2 => ?_, fun hge2 => ?_⟩
                    · refine callP_of (fail_c 2 Pd) (fun _ _ h => h.elim) ?_
                      rintro ce we ⟨ht, hb⟩
                      push_cast -dsimp
                      have hbr : bracesP l2 = .error (2, (Cae.hd l5).pos) := by
                        rw [hbr2, pb_of e5, if_pos (by omega)]
                        rfl
                      refine ⟨2, _, ?_, ht.mono (by have := kdd.size; omega), kdd.trans (Kept.of_below hb (X := (· = pb)) (fun i h1 h2 => by omega)) (fun i _ h => h)⟩
                      rw [← hm2]
                      refine again_err hm ?_
                      rw [hsx]
                      unfold Cae.pb
                      rw [hbr]
                    · have hbr3 : bracesP l2 = Cae.pb (mustP [125]) (fun _ => pr ((n1 : Int), (n2 : Int))) l5 := by
                        rw [hbr2, pb_of e5, if_neg (by omega)]
                      -- lo, hi, PS, world, tokens, cells of y, cells of the row, kept, the part; what is left to read
                      refine callP_of (must_c [125] Pd) ?_ ?_
                      · rintro _ wm ⟨_, lm, em, rfl, Pm, km⟩
                        have hbr : bracesP l2 = .ok (((n1 : Int), (n2 : Int)), lm) := by rw [hbr3, pb_of em]; rfl
                        have hsuf : suffixP l1 = .ok (some ((n1 : Int), (n2 : Int)), lm) := by rw [hsx, pb_of hbr]; rfl
                        have hlm : lm.length ≤ l2.length := by
                          obtain ⟨pre, _, e, _⟩ := lo_braces _ _ _ hbr
                          rw [e, List.length_append]; omega
                        have BY := BYd.kept km (by omega)
                        have BX := BXd.kept km (by omega)
                        have kS := kdd.trans km (fun i _ h => h)
                        have VX := VB.mono (X' := (· < w.heap.size)) km (fun i h => by omega) (fun i h => .inl h)
                        push_cast -dsimp [hz6]
                        -- a round's end: lo, hi; tokens l2; world wS; y's cells BY; kS : Kept (· = pb) w wS
                        have hm1 : ∃ m', m = m' + 1 := ⟨m - 1, by omega⟩
                        obtain ⟨m', hmm⟩ := hm1
                        have hag : againW d (unitP d) l0 = if d ≤ c + 1 then pfail 4 lm else againLoop d m' (c + 1) (.many x (n1 : Int) (n2 : Int)) lm := by
                          rw [← hm2, hmm, againLoop, pb_of hsuf]
                          dsimp only
                          split <;> rfl
                        refine ⟨⟨by omega, by omega⟩, ?_⟩
                        refine callP_of (deep_c (i + 1) Pm) ?_ ?_
                        · rintro _ w0 ⟨h8, rfl, hw0⟩
                          obtain rfl : wm = w0 := hw0.symm
                          have hlen4 := PS.len Pm
                          have hlen1 := hP1.len
                          have hzS := kS.size
                          push_cast -dsimp [hz5]
                          refine ⟨⟨m', c + 1, .many x (n1 : Int) (n2 : Int), lm, i + 1, ?_, by omega, ⟨rfl, by omega, by omega⟩, ?_, Pm, kS⟩, by rw [hlen4, hlen1]; omega⟩
                          · rw [hag, if_neg (by omega)]
                          · simp only [PatV]
                            exact ⟨_, _, _, rfl, by omega, BY, sl_blk1 BX (by omega), VX⟩
                        · rintro ce w0 ⟨h8, ht, hb⟩
                          push_cast -dsimp
                          refine ⟨4, _, ?_, ht.mono (by have := kS.size; omega), kS.trans (Kept.of_below hb (X := (· = pb)) (fun i h1 h2 => by omega)) (fun i _ h => h)⟩
                          rw [hag, if_pos (by omega)]
                          rfl
                      · rintro ce we ⟨e, pos, he, ht, hke⟩
                        push_cast -dsimp
                        refine ⟨e, pos, ?_, ht.mono (by have := kdd.size; omega), kdd.trans hke (fun i _ h => h)⟩
                        rw [← hm2]
                        refine again_err hm ?_
                        have hbr : bracesP l2 = .error (e, pos) := by rw [hbr3]; unfold Cae.pb; rw [he]
                        rw [hsx]
                        unfold Cae.pb
                        rw [hbr]
                  ·
                    rintro ce we ⟨e, pos, he, ht, hke⟩
                    push_cast -dsimp
                    refine ⟨e, pos, ?_, ht.mono (by have := k9.size; omega), k9.trans hke (fun i _ h => h)⟩
                    rw [← hm2]
                    refine again_err hm ?_
                    rw [hsx]
                    unfold Cae.pb
                    rw [show bracesP l2 = .error (e, pos) by rw [hbr2]; unfold Cae.pb; rw [he]]
                · have hik : isKind 2 l4 = false := by
                    have : t9.kind ≠ 2 := fun e => hk2 (by omega)
                    rw [el9]; simp [isKind, Cae.hd, this]
                  have hbr2 : bracesP l2 = Cae.pb (mustP [125]) (fun _ => pr ((n1 : Int), -1)) l4 := by
                    rw [hbr1]
                    unfold pif
                    rw [hik, if_neg (by decide)]
                  have VB := V9
                  -- lo, hi, PS, world, tokens, cells of y, cells of the row, kept, the part; what is left to read
                  refine callP_of (must_c [125] P9) ?_ ?_
                  · rintro _ wm ⟨_, lm, em, rfl, Pm, km⟩
                    have hbr : bracesP l2 = .ok (((n1 : Int), (-1)), lm) := by rw [hbr2, pb_of em]; rfl
                    have hsuf : suffixP l1 = .ok (some ((n1 : Int), (-1)), lm) := by rw [hsx, pb_of hbr]; rfl
                    have hlm : lm.length ≤ l2.length := by
                      obtain ⟨pre, _, e, _⟩ := lo_braces _ _ _ hbr
                      rw [e, List.length_append]; omega
                    have BY := BY9.kept km (by omega)
                    have BX := BX9.kept km (by omega)
                    have kS := k9.trans km (fun i _ h => h)
                    have VX := VB.mono (X' := (· < w.heap.size)) km (fun i h => by omega) (fun i h => .inl h)
                    push_cast -dsimp [hz6]
                    -- a round's end: lo, hi; tokens l2; world wS; y's cells BY; kS : Kept (· = pb) w wS
                    have hm1 : ∃ m', m = m' + 1 := ⟨m - 1, by omega⟩
                    obtain ⟨m', hmm⟩ := hm1
                    have hag : againW d (unitP d) l0 = if d ≤ c + 1 then pfail 4 lm else againLoop d m' (c + 1) (.many x (n1 : Int) (-1)) lm := by
                      rw [← hm2, hmm, againLoop, pb_of hsuf]
                      dsimp only
                      split <;> rfl
                    refine ⟨⟨by omega, by omega⟩, ?_⟩
                    refine callP_of (deep_c (i + 1) Pm) ?_ ?_
                    · rintro _ w0 ⟨h8, rfl, hw0⟩
                      obtain rfl : wm = w0 := hw0.symm
                      have hlen4 := PS.len Pm
                      have hlen1 := hP1.len
                      have hzS := kS.size
                      push_cast -dsimp [hz5]
                      refine ⟨⟨m', c + 1, .many x (n1 : Int) (-1), lm, i + 1, ?_, by omega, ⟨rfl, by omega, by omega⟩, ?_, Pm, kS⟩, by rw [hlen4, hlen1]; omega⟩
                      · rw [hag, if_neg (by omega)]
                      · simp only [PatV]
                        exact ⟨_, _, _, rfl, by omega, BY, sl_blk1 BX (by omega), VX⟩
                    · rintro ce w0 ⟨h8, ht, hb⟩
                      push_cast -dsimp
                      refine ⟨4, _, ?_, ht.mono (by have := kS.size; omega), kS.trans (Kept.of_below hb (X := (· = pb)) (fun i h1 h2 => by omega)) (fun i _ h => h)⟩
                      rw [hag, if_pos (by omega)]
                      rfl
                  · rintro ce we ⟨e, pos, he, ht, hke⟩
                    push_cast -dsimp
                    refine ⟨e, pos, ?_, ht.mono (by have := k9.size; omega), k9.trans hke (fun i _ h => h)⟩
                    rw [← hm2]
                    refine again_err hm ?_
                    have hbr : bracesP l2 = .error (e, pos) := by rw [hbr2]; unfold Cae.pb; rw [he]
                    rw [hsx]
                    unfold Cae.pb
                    rw [hbr]
              · obtain rfl : w7 = w8 := hww.symm
                have hbr2 : bracesP l2 = Cae.pb (mustP [125]) (fun _ => pr ((n1 : Int), (n1 : Int))) l3 := by
                  unfold bracesP
                  rw [pb_of e3]
                  show (if seeP [44] l3 then _ else _) = _
                  rw [hs5, if_neg (by decide)]
                have VB := V7
                push_cast -dsimp
                -- lo, hi, PS, world, tokens, cells of y, cells of the row, kept, the part; what is left to read
                refine callP_of (must_c [125] P7) ?_ ?_
                · rintro _ wm ⟨_, lm, em, rfl, Pm, km⟩
                  have hbr : bracesP l2 = .ok (((n1 : Int), (n1 : Int)), lm) := by rw [hbr2, pb_of em]; rfl
                  have hsuf : suffixP l1 = .ok (some ((n1 : Int), (n1 : Int)), lm) := by rw [hsx, pb_of hbr]; rfl
                  have hlm : lm.length ≤ l2.length := by
                    obtain ⟨pre, _, e, _⟩ := lo_braces _ _ _ hbr
                    rw [e, List.length_append]; omega
                  have BY := BY7.kept km (by omega)
                  have BX := BX7.kept km (by omega)
                  have kS := k7.trans km (fun i _ h => h)
                  have VX := VB.mono (X' := (· < w.heap.size)) km (fun i h => by omega) (fun i h => .inl h)
                  push_cast -dsimp [hz6]
                  -- a round's end: lo, hi; tokens l2; world wS; y's cells BY; kS : Kept (· = pb) w wS
                  have hm1 : ∃ m', m = m' + 1 := ⟨m - 1, by omega⟩
                  obtain ⟨m', hmm⟩ := hm1
                  have hag : againW d (unitP d) l0 = if d ≤ c + 1 then pfail 4 lm else againLoop d m' (c + 1) (.many x (n1 : Int) (n1 : Int)) lm := by
                    rw [← hm2, hmm, againLoop, pb_of hsuf]
                    dsimp only
                    split <;> rfl
                  refine ⟨⟨by omega, by omega⟩, ?_⟩
                  refine callP_of (deep_c (i + 1) Pm) ?_ ?_
                  · rintro _ w0 ⟨h8, rfl, hw0⟩
                    obtain rfl : wm = w0 := hw0.symm
                    have hlen4 := PS.len Pm
                    have hlen1 := hP1.len
                    have hzS := kS.size
                    push_cast -dsimp [hz5]
                    refine ⟨⟨m', c + 1, .many x (n1 : Int) (n1 : Int), lm, i + 1, ?_, by omega, ⟨rfl, by omega, by omega⟩, ?_, Pm, kS⟩, by rw [hlen4, hlen1]; omega⟩
                    · rw [hag, if_neg (by omega)]
                    · simp only [PatV]
                      exact ⟨_, _, _, rfl, by omega, BY, sl_blk1 BX (by omega), VX⟩
                  · rintro ce w0 ⟨h8, ht, hb⟩
                    push_cast -dsimp
                    refine ⟨4, _, ?_, ht.mono (by have := kS.size; omega), kS.trans (Kept.of_below hb (X := (· = pb)) (fun i h1 h2 => by omega)) (fun i _ h => h)⟩
                    rw [hag, if_pos (by omega)]
                    rfl
                · rintro ce we ⟨e, pos, he, ht, hke⟩
                  push_cast -dsimp
                  refine ⟨e, pos, ?_, ht.mono (by have := k7.size; omega), k7.trans hke (fun i _ h => h)⟩
                  rw [← hm2]
                  refine again_err hm ?_
                  have hbr : bracesP l2 = .error (e, pos) := by rw [hbr2]; unfold Cae.pb; rw [he]
                  rw [hsx]
                  unfold Cae.pb
                  rw [hbr]
            ·
              rintro ce we ⟨e, pos, he, ht, hke⟩
              push_cast -dsimp
              refine ⟨e, pos, ?_, ht.mono (by have := k4.size; omega), k4.trans hke (fun i _ h => h)⟩
              rw [← hm2]
              refine again_err hm ?_
              rw [hsx]
              unfold Cae.pb
              rw [show bracesP l2 = .error (e, pos) by unfold bracesP Cae.pb; rw [he]]
          · obtain rfl : w3 = w4 := hww.symm
            have hsuf : suffixP l1 = .ok (none, l1) := by
              unfold suffixP pif
              rw [hs1, hs2, hs3, hs4, if_neg (by decide), if_neg (by decide), if_neg (by decide), if_neg (by decide)]
              rfl
            push_cast -dsimp [hz5]
            refine ⟨x, l1, ?_, V3.mono (X' := (· < w.heap.size)) (Kept.refl (fun _ => False) _) (fun _ h => h.elim) (fun i h => .inl h), P3, k3⟩
            rw [← hm2]
            obtain ⟨m', rfl⟩ : ∃ m', m = m' + 1 := ⟨m - 1, by omega⟩
            rw [againLoop, pb_of hsuf]
            rfl
  · rintro c w3 ⟨e, pos, he, ht, hk3⟩
    push_cast -dsimp
    refine ⟨e, pos, ?_, ht, hk3⟩
    unfold againW Cae.pb
    rw [he]
end Go.Proofs.YtledlfbbebodgaaGreatDoor
end
section
namespace Go.Vc
open Go.RowKit
section
variable {P:Program} {ops:Array Oper} {C:World→Prop}
def wpMixGN (P:Program)(ops:Array Oper)(C:World→Prop)(m:Nat)(R:Act→World→Prop):Nat→Array Bool→Act→World→Prop
 | 0,listed,a,w=>(∀j∈Region.ready .any ops listed,j=m)∧wpMixN P .any ops (fun _=>True) R 1 listed a w
 | n+1,listed,a,w=>(Region.ready .any ops listed=[]→R a w)∧∀i∈Region.ready .any ops listed,mixOpN P ops C i (wpMixGN P ops C m R n (listed.setIfInBounds i true)) a w
theorem wpAny_of_mixGN {m:Nat}{R:Act→World→Prop}{Q:Exit→Act→World→Prop}(hq:∀a w,R a w→Q .normal a w):∀(n:Nat) (listed:Array Bool) (a:Act) (w:World),C w →
  wpMixGN P ops C m R n listed a w→wpAny P .any ops Q (n+1) listed a w
 | 0,listed,a,w,_,h=>wpAny_of_mixN (C:=fun _=>True) hq 1 listed a w trivial h.2
 | fuel+1,listed,a,w,hC,h=>⟨fun h0=>hq _ _ (h.1 h0),fun i hi=>by
   have h1:=h.2 i hi;unfold mixOpN at h1;unfold wpOp;split
   ·rename_i ho;simp only[ho]at h1;exact wpAny_of_mixGN hq fuel _ _ _ hC h1
   ·rename_i o ho;simp only[ho]at h1;split
    ·rename_i hw;simp only[hw,if_true]at h1;refine .inl ?_;split at h1
     ·exact Oper.wp_mono (fun a' w' hh=>wpAny_of_mixGN hq fuel _ _ _ hh.1 hh.2) (upon_of_resA h1)
     ·obtain⟨v,hv,hk⟩:=h1;unfold Oper.wp;rw[hv w hC];exact wpAny_of_mixGN hq fuel _ _ _ hC hk
    ·rename_i hw;simp only[hw]at h1;exact wpAny_of_mixGN hq fuel _ _ _ hC h1⟩
theorem wpMixG_firstN {m:Nat} {R:Act→World→Prop} {i:Nat} {oi:Oper} (hi:ops[i]?=some oi) (him:i≠m) (hm:((Region.before ops).getD m 0).testBit i=true) (hsel:∀(j:Nat) (o:Oper) cs b,ops[j]?=some o→o.op≠.select cs b) :
  ∀(fuel:Nat) (listed:Array Bool) (a:Act) (w:World),C w→Shut ops listed →
   (∀j oj,ops[j]?=some oj→j≠i→listed.getD j true=false→((Region.before ops).getD j 0).testBit i=false→oi.apart ops oj=true∧(chainN P oi && chainN P oj)=false) →
   i∈Region.ready .any ops listed→mixOpN P ops C i (wpMixGN P ops C m R fuel (listed.setIfInBounds i true)) a w→wpMixGN P ops C m R (fuel+1) listed a w:=by
 have hun:∀listed:Array Bool,i∈Region.ready .any ops listed→listed.getD i false=false:=fun listed hr=>by
  have h0:=(mem_ready.1 hr).1
  rcases Nat.lt_or_ge i listed.size with h'|h'
  ·simp[h']at h0 ⊢;exact h0
  ·simp[Array.getElem?_eq_none h']
 intro fuel
 induction fuel with
 | zero =>
  intro listed a w hC hS _ hr H
  refine⟨fun h=>(by rw[h]at hr;cases hr),fun j hj=>?_⟩
  by_cases hji:j=i
  ·subst hji;exact H
  ·have:=ready_mono hj hji
   obtain⟨_,_,_,hh⟩:=mixOp_someN hC H
   have hjm:=hh.1 j this
   subst hjm
   obtain⟨_,oj,hoj,hall⟩:=mem_ready.1 hj
   have:=hS.before j i oj hoj hall hm
   rw[hun listed hr]at this
   cases this
 | succ fuel ih =>
  intro listed a w hC hS hfree hr H
  refine⟨fun h=>(by rw[h]at hr;cases hr),fun j hj=>?_⟩
  by_cases hji:j=i
  ·subst hji;exact H
  ·have h1:mixOpN P ops C i (mixOpN P ops C j (wpMixGN P ops C m R fuel ((listed.setIfInBounds i true).setIfInBounds j true))) a w :=
    mixOp_monoN hC (fun a' w' _ hh=>hh.2 j (ready_mono hj hji)) H
   obtain⟨hjun,oj,hoj,hall⟩:=mem_ready.1 hj
   have hiun:=hun listed hr
   have hnot:((Region.before ops).getD j 0).testBit i=false:=by
    cases hb:((Region.before ops).getD j 0).testBit i with
    | false=>rfl
    | true=>have:=hS.before j i oj hoj hall hb;rw[hiun]at this;cases this
   obtain⟨hap,hch⟩:=hfree j oj hoj hji hjun hnot
   have h2:=mixOp_swapN hi hoj hap hch (fun cs b=>hsel i oi cs b hi) (fun cs b=>hsel j oj cs b hoj) h1
   refine mixOp_monoN hC (fun a' w' hC' h3=>ih (listed.setIfInBounds j true) a' w' hC' (hS.set hj) ?_ (ready_mono hr (Ne.symm hji)) ?_) h2
   ·intro k ok hk hki hun hno
    refine hfree k ok hk hki ?_ hno
    by_cases hjk:j=k
    ·subst hjk;exact hjun
    ·rw[getD_set_ne true hjk]at hun;exact hun
   ·rw[Array.setIfInBounds_comm _ _ hji]
    exact h3
def lastFromN (P:Program)(ops:Array Oper)(bf:Array Nat)(m:Nat):Nat→Nat→Array Bool→Bool
 | 0,_,listed=>(Region.ready .any ops listed).contains m && (Region.ready .any ops listed).all (· == m) && (Region.ready .any ops (listed.setIfInBounds m true)).isEmpty
 | fuel+1,k,listed=>(Region.ready .any ops listed).contains k && mixFreeN P ops bf listed k && (bf.getD m 0).testBit k && lastFromN P ops bf m fuel (k+1) (listed.setIfInBounds k true)
def lastBN (P:Program)(ops:Array Oper):Bool:=Region.noSelect ops && lastFromN P ops (Region.before ops) (ops.size-1) (ops.size-1) 0 (Array.replicate ops.size false)
def wpLexLN (P:Program)(ops:Array Oper)(C:World→Prop)(m:Nat)(R:Act→World→Prop):List Nat→Act→World→Prop
 | [],a,w=>mixOpN P ops (fun _=>True) m R a w
 | i::r,a,w=>mixOpN P ops C i (wpLexLN P ops C m R r) a w
theorem wpMixG_lexN {m:Nat}{R:Act→World→Prop}(hs:Region.noSelect ops=true):∀(n k:Nat) (listed:Array Bool) (a:Act) (w:World),k+n=m→m<ops.size→C w→Shut ops listed →
  lastFromN P ops (Region.before ops) m n k listed=true→wpLexLN P ops C m R (List.range' k n) a w→wpMixGN P ops C m R n listed a w
 | 0,_,listed,a,w,_,_,_,_,hB,h=>by
  simp only[lastFromN,Bool.and_eq_true,List.all_eq_true,beq_iff_eq,List.isEmpty_iff]at hB;obtain⟨⟨h1,h2⟩,h3⟩:=hB;refine⟨h2,⟨fun h0=>?_,fun i hi=>?_⟩⟩
  ·rw[h0]at h1;simp at h1
  ·rw[h2 i hi];exact mixOp_monoN trivial (fun a' w' _ hh=>⟨h3,hh⟩) h
 | n+1,k,listed,a,w,hk,hlt,hC,hS,hB,h=>by
  simp only[lastFromN,Bool.and_eq_true]at hB;obtain⟨⟨⟨hr,hf⟩,hm⟩,hB'⟩:=hB;have hlt':k<ops.size:=by omega
  have hr':k∈Region.ready .any ops listed:=by simpa using hr
  refine wpMixG_firstN (i:=k) (oi:=ops[k]) (by simp[hlt']) (by omega) hm (Region.noSelect_spec hs) n listed a w hC hS (mixFree_specN (by simp[hlt']) hf) hr' ?_;simp only[List.range'_succ,wpLexLN]at h;exact mixOp_monoN hC (fun a' w' hC' hh=>wpMixG_lexN hs n (k+1) _ a' w' (by omega) hlt hC' (hS.set hr') hB' hh) h
end
section
variable {P:Program}
def vcMixLN (P:Program)(ops:List Oper)(C:World→Prop)(R:Fr→World→Prop):(l:List Oper)→Fr→World→Ph (ops,C,R,l)→Prop
 | [],_,_,_=>False
 | [o],t,w,_=>match o.guard with
  | none=>mixKN P o t w (fun _=>True) (fun v w'=>R (put t o.dst v) w') .mk
  | some _=>False
 | o::o'::r,t,w,_=>match o.guard with
  | none=>mixKN P o t w C (fun v w'=>vcMixLN P ops C R (o'::r) (put t o.dst v) w' .mk) .mk
  | some (j,want)=>guardK (slotOf ops j) want t (fun t'=>mixKN P o t' w C (fun v w'=>vcMixLN P ops C R (o'::r) (put t' o.dst v) w' .mk) .mk) (fun t'=>vcMixLN P ops C R (o'::r) (put t' o.dst undef) w .mk) .mk
theorem wpLexL_of_vcMixLN {ops:List Oper}{C:World→Prop}{R:Fr→World→Prop}{N:Act→World→Prop}(hn:∀t w,R t w→N ⟨t.toArray,[]⟩ w):∀(l:List Oper) (k m:Nat) (t:Fr) (w:World),(∀j,l[j]?=ops[k+j]?)→k+l.length=m+1 →
  vcMixLN P ops C R l t w .mk→wpLexLN P ops.toArray C m N (List.range' k (l.length-1)) ⟨t.toArray,[]⟩ w
 | [],_,_,_,_,_,_,h=>h.elim
 | [o],k,m,t,w,hl,hm,h=>by
  have hkm:k=m:=by simpa using hm
  subst hkm;have h0:ops[k]?=some o:=by simpa using(hl 0).symm
  simp only[vcMixLN]at h;simp only[List.length_cons,List.length_nil,Nat.zero_add,Nat.sub_self,List.range'_zero,wpLexLN];split at h
  ·rename_i hg;exact mixOp_of_mixKN h0 (by simp[Region.wanted,hg]) (fun v w' hk=>hn _ _ hk) h
  ·exact h.elim
 | o::o'::r,k,m,t,w,hl,hm,h=>by
  have h0:ops[k]?=some o:=by simpa using(hl 0).symm
  have ih:=fun t w=>wpLexL_of_vcMixLN (C:=C) hn (o'::r) (k+1) m t w (fun j=>by have:=hl (j+1);simpa[Nat.add_assoc,Nat.add_comm 1 j] using this) (by simp only[List.length_cons]at hm ⊢;omega);have hlen:(o::o'::r).length-1=((o'::r).length-1)+1:=by simp
  rw[hlen,List.range'_succ];simp only[wpLexLN];simp only[vcMixLN]at h;split at h
  ·rename_i hg;exact mixOp_of_mixKN h0 (by simp[Region.wanted,hg]) (fun v w' hk=>ih _ _ hk) h
  ·rename_i j want hg;rcases guard_cases hg h with ⟨hw,hh⟩|⟨hw,hh⟩
   ·exact mixOp_of_mixKN h0 hw (fun v w' hk=>ih _ _ hk) hh
   ·exact mixOp_skipN h0 hw (ih _ _ hh)
theorem wpL_lastN {id:Nat}{l:List Oper}{t:Fr}{w:World}{Q:EP}{p}(C:World→Prop)(hm:P.follows .mixedOrders=true)(hB:lastBN P l.toArray=true)(hl:l≠[])(hC:C w.drew)
  (h:vcMixLN P l C (Q .normal) l t w.drew .mk):wpL P (.region id l.toArray true) Q t w p:=by
 unfold wpL;simp only[lastBN,Bool.and_eq_true]at hB;have hpos:0<l.length:=List.length_pos_iff.2 hl;have hsz:l.toArray.size=(l.length-1)+1:=by simp;omega
 refine wp_region_any hm ?_;have hG:wpMixGN P l.toArray C (l.length-1) (fun a w=>lift Q .normal a w) (l.length-1) (Array.replicate l.toArray.size false) ⟨t.toArray,[]⟩ w.drew:=by
  refine wpMixG_lexN hB.1 _ 0 _ _ _ (by simp) (by simp;omega) hC (fun j o _ hl=>by simp[Array.getElem?_replicate]at hl;split at hl<;>simp at hl) (by simpa using hB.2) ?_;exact wpLexL_of_vcMixLN (P:=P) (ops:=l) (C:=C) (R:=Q .normal) (N:=fun a w=>lift Q .normal a w) (fun t w hk=>⟨rfl,by simpa using hk⟩) l 0 (l.length-1) t w.drew (fun j=>by simp) (by omega) h
 have:=wpAny_of_mixGN (C:=C) (R:=fun a w=>lift Q .normal a w) (Q:=fun e a w=>lift Q e a w) (fun _ _ h=>h) _ _ _ _ hC hG;rw[←hsz]at this;exact this
variable {t:Fr} {w:World} {C:World→Prop} {K:VK} {R:Fr→World→Prop}
theorem vcMixL_oneN (ops)(d op ty pos af)(p):vcMixLN P ops C R [⟨d,op,ty,pos,af,none⟩] t w p=mixKN P ⟨d,op,ty,pos,af,none⟩ t w (fun _=>True) (fun v w'=>R (put t d v) w') .mk:=(rfl)
theorem vcMixL_plainN (ops)(d op ty pos af o' r)(p):vcMixLN P ops C R (⟨d,op,ty,pos,af,none⟩::o'::r) t w p=mixKN P ⟨d,op,ty,pos,af,none⟩ t w C (fun v w'=>vcMixLN P ops C R (o'::r) (put t d v) w' .mk) .mk:=(rfl)
theorem vcMixL_guardN (ops)(d op ty pos af j want o' r)(p):vcMixLN P ops C R (⟨d,op,ty,pos,af,some (j,want)⟩::o'::r) t w p =
  guardK (slotOf ops j) want t (fun t'=>mixKN P ⟨d,op,ty,pos,af,some (j,want)⟩ t' w C (fun v w'=>vcMixLN P ops C R (o'::r) (put t' d v) w' .mk) .mk) (fun t'=>vcMixLN P ops C R (o'::r) (put t' d undef) w .mk) .mk:=(rfl)
end
attribute [push_cast] vcMixL_oneN vcMixL_plainN vcMixL_guardN
attribute [irreducible] vcMixLN
end Go.Vc
end
section
namespace Go.Proofs.YtledlfbbebodgaaGreatDoor
open Go.Vc Go.Proofs Go.RowKit Cae
attribute [local irreducible] wpL callK valK unitK runK Fun Sl Vc.Own vc vcOps opK pureK
def Sh {α:Type}(p:Pa α):Prop:=∀l x l',p l=.ok (x,l')→l'.length<l.length
def Le {α:Type}(p:Pa α):Prop:=∀l x l',p l=.ok (x,l')→l'.length≤l.length
theorem Lo.le {α:Type}{R:α→α→Prop}{p:Pa α}(h:Lo R p p):Le p:=fun l x l' e=>by
 obtain⟨pre,_,e,_⟩:=h l x l' e;rw[e,List.length_append];omega
theorem LoS.sh {α:Type}{R:α→α→Prop}{p:Pa α}(h:LoS R p p):Sh p:=fun l x l' e=>by
 obtain⟨pre,hne,_,e,_⟩:=h l x l' e;have:=List.length_pos_iff.2 hne;rw[e,List.length_append];omega
theorem Sh.le {α:Type}{p:Pa α}(h:Sh p):Le p:=fun l x l' e=>Nat.le_of_lt (h l x l' e)
theorem Sh.pb {α β:Type}{p:Pa α}{q:α→Pa β}(h:Sh p)(k:∀x,Le (q x)):Sh (Cae.pb p q):=fun l y l' e=>by
 obtain⟨x,l1,e1,e2⟩:=pb_ok e;exact Nat.lt_of_le_of_lt (k x _ _ _ e2) (h _ _ _ e1)
theorem Sh.pbr {α β:Type}{p:Pa α}{q:α→Pa β}(h:Le p)(k:∀x,Sh (q x)):Sh (Cae.pb p q):=fun l y l' e=>by
 obtain⟨x,l1,e1,e2⟩:=pb_ok e;exact Nat.lt_of_lt_of_le (k x _ _ _ e2) (h _ _ _ e1)
theorem Le.pb {α β:Type}{p:Pa α}{q:α→Pa β}(h:Le p)(k:∀x,Le (q x)):Le (Cae.pb p q):=fun l y l' e=>by
 obtain⟨x,l1,e1,e2⟩:=pb_ok e;exact Nat.le_trans (k x _ _ _ e2) (h _ _ _ e1)
theorem Le.pr {α:Type}{x:α}:Le (pr x):=fun l y l' e=>by cases e;exact Nat.le_refl _
theorem Sh.pif {α:Type}{c:List Tok→Bool}{p q:Pa α}(h:Sh p)(k:Sh q):Sh (Cae.pif c p q):=fun l x l' e=>by
 unfold Cae.pif at e;split at e
 ·exact h _ _ _ e
 ·exact k _ _ _ e
theorem Sh.fail {α:Type}{n:Nat}:Sh (pfail n:Pa α):=fun l x l' e=>by cases e
theorem le_peek:Le peek:=Lo.le Lo.peek
theorem sh_pop:Sh popP:=LoS.sh lo_pop
theorem sh_one:∀d,Sh (oneP d)
 | 0=>Sh.fail
 | d+1=>Sh.pif (LoS.sh lo_lit) (Sh.pif (Sh.pbr le_peek fun _=>Sh.pb sh_pop fun _=>Le.pb (Lo.le (lo_one d)) fun _=>Le.pr)
   (Sh.pif (Sh.pb sh_pop fun _=>Le.pb (Lo.le (lo_kindW (lo_one d))) fun _=>Le.pb (LoS.sh (lo_must _)).le fun _=>Le.pr)
    (Sh.pbr le_peek fun _=>Sh.pb (LoS.sh lo_name) fun _=>Le.pr)))
theorem sh_unit:∀d,Sh (unitP d)
 | 0=>Sh.fail
 | d+1=>Sh.pif (Sh.pb sh_pop fun _=>Le.pr) (Sh.pif (Sh.pb sh_pop fun _=>Le.pr) (Sh.pif (Sh.pb sh_pop fun _=>Le.pb (Lo.le (lo_patW (lo_unit d))) fun _=>Le.pb (LoS.sh (lo_must _)).le fun _=>Le.pr)
   (Sh.pif (Sh.pb (sh_one (d+1)) fun _=>Le.pr) Sh.fail)))
theorem unit_less {d:Nat}{l l':List Tok}{x:PatP}(h:unitP d l=.ok (x,l')):l'.length<l.length:=sh_unit d _ _ _ h
theorem again_less {d:Nat}{l l':List Tok}{x:PatP}(h:againW d (unitP d) l=.ok (x,l')):l'.length<l.length:=by
 obtain⟨y,l1,h1,h2⟩:=pb_ok h;have a:=unit_less h1;obtain⟨pre,_,e,_⟩:=lo_againLoop d _ _ _ _ (show PE y y from fun _=>rfl) _ _ _ h2;have:l1.length=pre.length+l'.length:=by rw[e,List.length_append]
 omega
theorem row_of (d : Nat) (ha : AgainC d) : RowC d := by
  intro n hn0 hn pb B w l0 h0
  have hle := h0.le
  have hlt := h0.lt
  refine fun2_of_vc Tryz.func134 rfl (by kernel_rfl) [.tmp 4] rfl ?_
  push_cast -dsimp (maxSteps := 4000000) [Tryz.ntmps134]
  push_cast -dsimp
  refine boxK_of ?_
  intro w1 hw1
  have B1 : Blk w1 w.heap.size 39 [.int .i64 4, .pointer none, .slice none 0 0, .int .i64 0, .int .i64 0] := hw1.blk
  have P1 := h0.below hw1.below
  have z1 := hw1.size
  have k1 : Kept (· = pb) w w1 := Kept.new hw1
  push_cast -dsimp
  refine wpL_loop [8, 9, 10, 11, 12, 13, 14, 15, 16, 17, 18, 19, 20, 21, 22, 23, 24, 25, 26, 27, 28, 29, 30, 31, 32, 33, 34, 35, 36, 37, 38, 39, 40, 41, 42, 43] (fun z w' => ∃ (m : Nat) (acc : List PatP) (l1 : List Tok) (sv : Value) (vs : List Nat), rowLoop (againW d (unitP d)) m acc l1 = rowLoop (againW d (unitP d)) 1000 [] l0 ∧ l1.length < m ∧ acc.length + m ≤ 1000 ∧
      Blk w' w.heap.size 39 [.int .i64 4, .pointer none, sv, .int .i64 0, .int .i64 0] ∧ Go.Vc.Own (w.heap.size + 1) 35 1 encP w' sv vs ∧ PatsV (fun b => b < w.heap.size ∨ b = w.heap.size ∨ sv.ownBlock = some b) w' vs acc ∧ PS pb B w' l1 ∧ Kept (· = pb) w w') (fun z w' => lenAt w' pb) ?_ ?_
  · have hlt : l0.length < 1000 := by have := h0.tl.len; omega
    exact ⟨1000, [], l0, _, [], rfl, hlt, by simp, B1, Vc.Own.nil (enc := encP) _ _ (fun _ => rfl) _, by simp only [PatsV], P1, k1⟩
  rintro z w' ⟨m, acc, l1, sv, vs, hm2, hm, hacc, hB, hO, hV, hP1, hkw⟩
  obtain ⟨t1, r1, el1⟩ := hP1.tl.cons
  have hP1' := hP1
  rw [el1] at hP1'
  obtain ⟨b, o, c, hBp, hc, hne, c0, c1, c2, c3⟩ := hP1'.hd
  have cb : w'.cell? ⟨pb, 0, none⟩ = some (.slice (some ⟨b, o, none⟩) (r1.length + 1) c) := hBp.cell rfl
  have hzw := hkw.size
  have hstP : startP l1 = (t1.kind == 3 || namedP l1 || seeP [46] l1 || seeP [36] l1 || seeP [40] l1) := by unfold startP isKind; rw [el1]; rfl
  push_cast -dsimp [cb, c0]
  refine ⟨by omega, fun h3 => ?_, fun h3 => ?_⟩
  · have hk3 : (t1.kind == 3) = false := by
      have : t1.kind ≠ 3 := fun e => h3 (by omega)
      simpa using this
    rw [hk3, Bool.false_or] at hstP
    refine callK_of (named_c hP1) ?_
    rintro _ w2 ⟨rfl, b2⟩
    have P2 := hP1.below b2
    have hB2 := hB.below b2 hB.lt
    have hO2 := hO.below b2
    have hV2 := PatsV.mono (X' := fun b => b < w.heap.size ∨ b = w.heap.size ∨ sv.ownBlock = some b) (Kept.of_below b2 (X := fun _ => False) (fun i h1 h2 => by omega)) (fun _ h => h.elim) (fun _ h => h) hV
    have k2 := hkw.trans (Kept.of_below b2 (X := (· = pb)) (fun i h1 h2 => by omega)) (fun i _ h => h)
    cases hnm : namedP l1 with
    | true =>
      have hst : startP l1 = true := by rw [hstP, hnm]; rfl
      push_cast -dsimp
      -- at world w2: hB2 hO2 hV2 P2 k2
      have hm1 : ∃ m', m = m' + 1 := ⟨m - 1, by omega⟩
      obtain ⟨m', hmm⟩ := hm1
      have hz2 : w.heap.size < w2.heap.size := hB2.lt
      have kd : Kept (fun _ => False) w2 w2.drew := (Kept.refl _ _).drew
      have hBd := hB2.kept kd (fun h => h)
      have Pd := P2.kept kd (fun i h => h.elim)
      have kdd := k2.trans kd (fun i h1 h2 => h2.elim)
      have d2 : w2.drew.cell? ⟨w.heap.size, 2, none⟩ = some sv := hBd.cell rfl
      have hstep : rowLoop (againW d (unitP d)) m acc l1 = Cae.pb (againW d (unitP d)) (fun x => rowLoop (againW d (unitP d)) m' (acc ++ [x])) l1 := by
        rw [hmm, rowLoop]
        unfold pif
        rw [hst, if_pos rfl]
      cases hp : againW d (unitP d) l1 with
      | error e =>
        refine wpL_boom (E := PThr pb w l0 (rowW (againW d (unitP d)))) [(), (), (), (), (), (), ()] mixed (by kernel_rfl) (fun ce te we hE => ?_) ?_
        · push_cast -dsimp
          exact hE
        · push_cast -dsimp [d2]
          refine ⟨fun w'' h => by rw [h, d2]; exact rfl, ?_⟩
          refine callB_of (ha n hn0 hn pb B w2.drew l1 Pd) (fun v we ⟨x, l', h1, _⟩ => by rw [hp] at h1; cases h1) ?_
          rintro ce we ⟨en, pos, he, ht, hke⟩
          refine ⟨en, pos, ?_, ht.mono (by have := kdd.size; omega), kdd.trans hke (fun i _ h => h)⟩
          have hl : rowLoop (againW d (unitP d)) 1000 [] l0 = .error (en, pos) := by
            rw [← hm2, hstep]
            unfold Cae.pb
            rw [he]
          unfold rowW Cae.pb
          rw [hl]
      | ok q =>
        obtain ⟨x, l2⟩ := q
        have hl2 : l2.length < l1.length := again_less hp
        refine wpL_lastN (fun w' => Blk w' w.heap.size 39 [.int .i64 4, .pointer none, sv, .int .i64 0, .int .i64 0]) mixed (by kernel_rfl) (by simp) hB2.drew ?_
        push_cast -dsimp [d2]
        refine ⟨fun w'' h => by rw [Blk.cell h (o := 2) rfl]; exact rfl, ?_⟩
        refine callP_of (ha n hn0 hn pb B w2.drew l1 Pd) ?_ (fun ce we ⟨en, pos, he, _⟩ => by rw [hp] at he; cases he)
        rintro u w3 ⟨x', l2', e3, V3, P3, k3⟩
        obtain ⟨rfl, rfl⟩ : x = x' ∧ l2 = l2' := by rw [hp] at e3; cases e3; exact ⟨rfl, rfl⟩
        obtain ⟨ub, rfl, hub, hubX⟩ := V3.ptr
        have B3 := hBd.kept k3 (by omega)
        have z3 := k3.size
        have hzd : w2.heap.size = w2.drew.heap.size := rfl
        have hob : ∀ g, sv.ownBlock = some g → g < w2.heap.size := fun g hg => (hO2.block g hg).2
        have hO3 := (hO2.keptX kd (fun g _ h => h)).keptX k3 (fun g hg h => by have := (hO2.block g hg).1; omega)
        have hV3 := PatsV.mono (X' := fun b => (b < w.heap.size ∨ b = w.heap.size ∨ sv.ownBlock = some b) ∨ w2.heap.size ≤ b) ((kd.weaken (Y := (· = pb)) (fun i _ h => h.elim)).trans k3 (fun i _ h => h)) (fun i h => by omega) (fun i h => h) (PatsV.top hV2)
        refine ⟨B3, ?_⟩
        push_cast -dsimp
        refine rowK elI_37 rfl rfl (by omega) ?_
        intro w4 hw4
        have B4 := B3.below hw4.below B3.lt
        have z4 := hw4.size
        have hO4 := hO3.new hw4
        have P4 := P3.below hw4.below
        refine ⟨B4, ?_⟩
        push_cast -dsimp
        refine appendK2 (base := w.heap.size + 1) [ub] (enc := encP) elI_37 hO4 (by rfl) (fun j y hy => by simpa [encP, ptrP] using hw4.cell hy) encP_one (by rw [PatsV.len hV2]; simp only [List.length_cons, List.length_nil]; omega) (by omega) ?_
        intro sv5 w5 hO5 hg5 hn5
        have kg : Kept (fun j => sv.ownBlock = some j) w4 w5 := Kept.grown hg5 (fun _ h => h)
        have hog : ∀ g, sv.ownBlock = some g → w.heap.size + 1 ≤ g := fun g hg => (hO2.block g hg).1
        have B5 := B4.kept kg (fun h => by have := hog _ h; omega)
        have P5 := P4.kept kg (fun i h => by have := hog _ h; omega)
        have z5 := kg.size
        refine ⟨B5, ?_⟩
        obtain ⟨a5, c5, rfl⟩ := hO5.slice
        push_cast -dsimp
        refine storeK_of B5 (by simp) rfl ?_
        intro w6 hw6
        have B6 : Blk w6 w.heap.size 39 [.int .i64 4, .pointer none, .slice a5 (vs ++ [ub]).length c5, .int .i64 0, .int .i64 0] := hw6.blk
        have P6 := P5.kept hw6.kept (fun i h => by omega)
        have z6 := hw6.size
        have hO6 := hO5.keptX hw6.kept (fun g hg h => by have := (hO5.block g hg).1; omega)
        have k6 := (((kdd.trans k3 (fun i _ h => h)).trans (Kept.new (X := (· = pb)) hw4) (fun i _ h => h)).trans kg (fun i h1 h2 => by have := hog _ h2; omega)).trans hw6.kept (fun i h1 h2 => by omega)
        have kY : Kept (fun i => i = w.heap.size ∨ sv.ownBlock = some i) w3 w6 := ((Kept.new (X := fun i => i = w.heap.size ∨ sv.ownBlock = some i) hw4).trans kg (fun i _ h => .inr h)).trans hw6.kept (fun i _ h => .inl h)
        have hX : ∀ i, (i < w.heap.size ∨ i = w.heap.size ∨ (Value.slice a5 (vs ++ [ub]).length c5).ownBlock = some i) → i < w.heap.size ∨ i = w.heap.size ∨ sv.ownBlock = some i ∨ w4.heap.size ≤ i := fun i h => by
          rcases h with h | h | h
          · exact .inl h
          · exact .inr (.inl h)
          · rcases hn5 i h with h | h
            · exact .inr (.inr (.inl h))
            · exact .inr (.inr (.inr h))
        have hV6 : PatsV (fun b => b < w.heap.size ∨ b = w.heap.size ∨ (Value.slice a5 (vs ++ [ub]).length c5).ownBlock = some b) w6 (vs ++ [ub]) (acc ++ [x]) := by
          refine PatsV.snoc (PatsV.mono kY (fun i h => ?_) (fun i h => ?_) hV3) (PatV.mono kY (fun i h => ?_) (fun i h => ?_) V3.top)
          · rcases h with h | h
            · exact .inl (.inr (.inl h))
            · exact .inl (.inr (.inr h))
          · rcases hX i h with h | h | h | h
            · exact .inl (.inl h)
            · exact .inl (.inr (.inl h))
            · exact .inl (.inr (.inr h))
            · exact .inr (by omega)
          · rcases h with h | h
            · exact .inl (by omega)
            · exact .inl (hob i h)
          · rcases hX i h with h | h | h | h
            · exact .inl (by omega)
            · exact .inl (by omega)
            · exact .inl (hob i h)
            · exact .inr (by omega)
        have hlen6 := P6.len
        have hlen1 := hP1.len
        have hnx : rowLoop (againW d (unitP d)) m' (acc ++ [x]) l2 = rowLoop (againW d (unitP d)) 1000 [] l0 := by rw [← hm2, hstep, pb_of hp]
        push_cast -dsimp
        exact ⟨⟨m', acc ++ [x], l2, _, vs ++ [ub], hnx, by omega, by rw [List.length_append, List.length_singleton]; omega, B6, hO6, hV6, P6, k6⟩, by rw [hlen6, hlen1]; exact hl2⟩
    | false =>
      rw [hnm, Bool.false_or] at hstP
      push_cast -dsimp
      refine callK_of (see_c [46] P2) ?_
      rintro _ w3 ⟨rfl, hw3⟩
      obtain rfl : w2 = w3 := hw3.symm
      cases hs1 : seeP [46] l1 with
      | true =>
        have hst : startP l1 = true := by rw [hstP, hs1]; rfl
        push_cast -dsimp
        -- at world w2: hB2 hO2 hV2 P2 k2
        have hm1 : ∃ m', m = m' + 1 := ⟨m - 1, by omega⟩
        obtain ⟨m', hmm⟩ := hm1
        have hz2 : w.heap.size < w2.heap.size := hB2.lt
        have kd : Kept (fun _ => False) w2 w2.drew := (Kept.refl _ _).drew
        have hBd := hB2.kept kd (fun h => h)
        have Pd := P2.kept kd (fun i h => h.elim)
        have kdd := k2.trans kd (fun i h1 h2 => h2.elim)
        have d2 : w2.drew.cell? ⟨w.heap.size, 2, none⟩ = some sv := hBd.cell rfl
        have hstep : rowLoop (againW d (unitP d)) m acc l1 = Cae.pb (againW d (unitP d)) (fun x => rowLoop (againW d (unitP d)) m' (acc ++ [x])) l1 := by
          rw [hmm, rowLoop]
          unfold pif
          rw [hst, if_pos rfl]
        cases hp : againW d (unitP d) l1 with
        | error e =>
          refine wpL_boom (E := PThr pb w l0 (rowW (againW d (unitP d)))) [(), (), (), (), (), (), ()] mixed (by kernel_rfl) (fun ce te we hE => ?_) ?_
          · push_cast -dsimp
            exact hE
          · push_cast -dsimp [d2]
            refine ⟨fun w'' h => by rw [h, d2]; exact rfl, ?_⟩
            refine callB_of (ha n hn0 hn pb B w2.drew l1 Pd) (fun v we ⟨x, l', h1, _⟩ => by rw [hp] at h1; cases h1) ?_
            rintro ce we ⟨en, pos, he, ht, hke⟩
            refine ⟨en, pos, ?_, ht.mono (by have := kdd.size; omega), kdd.trans hke (fun i _ h => h)⟩
            have hl : rowLoop (againW d (unitP d)) 1000 [] l0 = .error (en, pos) := by
              rw [← hm2, hstep]
              unfold Cae.pb
              rw [he]
            unfold rowW Cae.pb
            rw [hl]
        | ok q =>
          obtain ⟨x, l2⟩ := q
          have hl2 : l2.length < l1.length := again_less hp
          refine wpL_lastN (fun w' => Blk w' w.heap.size 39 [.int .i64 4, .pointer none, sv, .int .i64 0, .int .i64 0]) mixed (by kernel_rfl) (by simp) hB2.drew ?_
          push_cast -dsimp [d2]
          refine ⟨fun w'' h => by rw [Blk.cell h (o := 2) rfl]; exact rfl, ?_⟩
          refine callP_of (ha n hn0 hn pb B w2.drew l1 Pd) ?_ (fun ce we ⟨en, pos, he, _⟩ => by rw [hp] at he; cases he)
          rintro u w3 ⟨x', l2', e3, V3, P3, k3⟩
          obtain ⟨rfl, rfl⟩ : x = x' ∧ l2 = l2' := by rw [hp] at e3; cases e3; exact ⟨rfl, rfl⟩
          obtain ⟨ub, rfl, hub, hubX⟩ := V3.ptr
          have B3 := hBd.kept k3 (by omega)
          have z3 := k3.size
          have hzd : w2.heap.size = w2.drew.heap.size := rfl
          have hob : ∀ g, sv.ownBlock = some g → g < w2.heap.size := fun g hg => (hO2.block g hg).2
          have hO3 := (hO2.keptX kd (fun g _ h => h)).keptX k3 (fun g hg h => by have := (hO2.block g hg).1; omega)
          have hV3 := PatsV.mono (X' := fun b => (b < w.heap.size ∨ b = w.heap.size ∨ sv.ownBlock = some b) ∨ w2.heap.size ≤ b) ((kd.weaken (Y := (· = pb)) (fun i _ h => h.elim)).trans k3 (fun i _ h => h)) (fun i h => by omega) (fun i h => h) (PatsV.top hV2)
          refine ⟨B3, ?_⟩
          push_cast -dsimp
          refine rowK elI_37 rfl rfl (by omega) ?_
          intro w4 hw4
          have B4 := B3.below hw4.below B3.lt
          have z4 := hw4.size
          have hO4 := hO3.new hw4
          have P4 := P3.below hw4.below
          refine ⟨B4, ?_⟩
          push_cast -dsimp
          refine appendK2 (base := w.heap.size + 1) [ub] (enc := encP) elI_37 hO4 (by rfl) (fun j y hy => by simpa [encP, ptrP] using hw4.cell hy) encP_one (by rw [PatsV.len hV2]; simp only [List.length_cons, List.length_nil]; omega) (by omega) ?_
          intro sv5 w5 hO5 hg5 hn5
          have kg : Kept (fun j => sv.ownBlock = some j) w4 w5 := Kept.grown hg5 (fun _ h => h)
          have hog : ∀ g, sv.ownBlock = some g → w.heap.size + 1 ≤ g := fun g hg => (hO2.block g hg).1
          have B5 := B4.kept kg (fun h => by have := hog _ h; omega)
          have P5 := P4.kept kg (fun i h => by have := hog _ h; omega)
          have z5 := kg.size
          refine ⟨B5, ?_⟩
          obtain ⟨a5, c5, rfl⟩ := hO5.slice
          push_cast -dsimp
          refine storeK_of B5 (by simp) rfl ?_
          intro w6 hw6
          have B6 : Blk w6 w.heap.size 39 [.int .i64 4, .pointer none, .slice a5 (vs ++ [ub]).length c5, .int .i64 0, .int .i64 0] := hw6.blk
          have P6 := P5.kept hw6.kept (fun i h => by omega)
          have z6 := hw6.size
          have hO6 := hO5.keptX hw6.kept (fun g hg h => by have := (hO5.block g hg).1; omega)
          have k6 := (((kdd.trans k3 (fun i _ h => h)).trans (Kept.new (X := (· = pb)) hw4) (fun i _ h => h)).trans kg (fun i h1 h2 => by have := hog _ h2; omega)).trans hw6.kept (fun i h1 h2 => by omega)
          have kY : Kept (fun i => i = w.heap.size ∨ sv.ownBlock = some i) w3 w6 := ((Kept.new (X := fun i => i = w.heap.size ∨ sv.ownBlock = some i) hw4).trans kg (fun i _ h => .inr h)).trans hw6.kept (fun i _ h => .inl h)
          have hX : ∀ i, (i < w.heap.size ∨ i = w.heap.size ∨ (Value.slice a5 (vs ++ [ub]).length c5).ownBlock = some i) → i < w.heap.size ∨ i = w.heap.size ∨ sv.ownBlock = some i ∨ w4.heap.size ≤ i := fun i h => by
            rcases h with h | h | h
            · exact .inl h
            · exact .inr (.inl h)
            · rcases hn5 i h with h | h
              · exact .inr (.inr (.inl h))
              · exact .inr (.inr (.inr h))
          have hV6 : PatsV (fun b => b < w.heap.size ∨ b = w.heap.size ∨ (Value.slice a5 (vs ++ [ub]).length c5).ownBlock = some b) w6 (vs ++ [ub]) (acc ++ [x]) := by
            refine PatsV.snoc (PatsV.mono kY (fun i h => ?_) (fun i h => ?_) hV3) (PatV.mono kY (fun i h => ?_) (fun i h => ?_) V3.top)
            · rcases h with h | h
              · exact .inl (.inr (.inl h))
              · exact .inl (.inr (.inr h))
            · rcases hX i h with h | h | h | h
              · exact .inl (.inl h)
              · exact .inl (.inr (.inl h))
              · exact .inl (.inr (.inr h))
              · exact .inr (by omega)
            · rcases h with h | h
              · exact .inl (by omega)
              · exact .inl (hob i h)
            · rcases hX i h with h | h | h | h
              · exact .inl (by omega)
              · exact .inl (by omega)
              · exact .inl (hob i h)
              · exact .inr (by omega)
          have hlen6 := P6.len
          have hlen1 := hP1.len
          have hnx : rowLoop (againW d (unitP d)) m' (acc ++ [x]) l2 = rowLoop (againW d (unitP d)) 1000 [] l0 := by rw [← hm2, hstep, pb_of hp]
          push_cast -dsimp
          exact ⟨⟨m', acc ++ [x], l2, _, vs ++ [ub], hnx, by omega, by rw [List.length_append, List.length_singleton]; omega, B6, hO6, hV6, P6, k6⟩, by rw [hlen6, hlen1]; exact hl2⟩
      | false =>
        rw [hs1, Bool.false_or] at hstP
        push_cast -dsimp
        refine callK_of (see_c [36] P2) ?_
        rintro _ w3 ⟨rfl, hw3⟩
        obtain rfl : w2 = w3 := hw3.symm
        cases hs2 : seeP [36] l1 with
        | true =>
          have hst : startP l1 = true := by rw [hstP, hs2]; rfl
          push_cast -dsimp
          -- at world w2: hB2 hO2 hV2 P2 k2
          have hm1 : ∃ m', m = m' + 1 := ⟨m - 1, by omega⟩
          obtain ⟨m', hmm⟩ := hm1
          have hz2 : w.heap.size < w2.heap.size := hB2.lt
          have kd : Kept (fun _ => False) w2 w2.drew := (Kept.refl _ _).drew
          have hBd := hB2.kept kd (fun h => h)
          have Pd := P2.kept kd (fun i h => h.elim)
          have kdd := k2.trans kd (fun i h1 h2 => h2.elim)
          have d2 : w2.drew.cell? ⟨w.heap.size, 2, none⟩ = some sv := hBd.cell rfl
          have hstep : rowLoop (againW d (unitP d)) m acc l1 = Cae.pb (againW d (unitP d)) (fun x => rowLoop (againW d (unitP d)) m' (acc ++ [x])) l1 := by
            rw [hmm, rowLoop]
            unfold pif
            rw [hst, if_pos rfl]
          cases hp : againW d (unitP d) l1 with
          | error e =>
            refine wpL_boom (E := PThr pb w l0 (rowW (againW d (unitP d)))) [(), (), (), (), (), (), ()] mixed (by kernel_rfl) (fun ce te we hE => ?_) ?_
            · push_cast -dsimp
              exact hE
            · push_cast -dsimp [d2]
              refine ⟨fun w'' h => by rw [h, d2]; exact rfl, ?_⟩
              refine callB_of (ha n hn0 hn pb B w2.drew l1 Pd) (fun v we ⟨x, l', h1, _⟩ => by rw [hp] at h1; cases h1) ?_
              rintro ce we ⟨en, pos, he, ht, hke⟩
              refine ⟨en, pos, ?_, ht.mono (by have := kdd.size; omega), kdd.trans hke (fun i _ h => h)⟩
              have hl : rowLoop (againW d (unitP d)) 1000 [] l0 = .error (en, pos) := by
                rw [← hm2, hstep]
                unfold Cae.pb
                rw [he]
              unfold rowW Cae.pb
              rw [hl]
          | ok q =>
            obtain ⟨x, l2⟩ := q
            have hl2 : l2.length < l1.length := again_less hp
            refine wpL_lastN (fun w' => Blk w' w.heap.size 39 [.int .i64 4, .pointer none, sv, .int .i64 0, .int .i64 0]) mixed (by kernel_rfl) (by simp) hB2.drew ?_
            push_cast -dsimp [d2]
            refine ⟨fun w'' h => by rw [Blk.cell h (o := 2) rfl]; exact rfl, ?_⟩
            refine callP_of (ha n hn0 hn pb B w2.drew l1 Pd) ?_ (fun ce we ⟨en, pos, he, _⟩ => by rw [hp] at he; cases he)
            rintro u w3 ⟨x', l2', e3, V3, P3, k3⟩
            obtain ⟨rfl, rfl⟩ : x = x' ∧ l2 = l2' := by rw [hp] at e3; cases e3; exact ⟨rfl, rfl⟩
            obtain ⟨ub, rfl, hub, hubX⟩ := V3.ptr
            have B3 := hBd.kept k3 (by omega)
            have z3 := k3.size
            have hzd : w2.heap.size = w2.drew.heap.size := rfl
            have hob : ∀ g, sv.ownBlock = some g → g < w2.heap.size := fun g hg => (hO2.block g hg).2
            have hO3 := (hO2.keptX kd (fun g _ h => h)).keptX k3 (fun g hg h => by have := (hO2.block g hg).1; omega)
            have hV3 := PatsV.mono (X' := fun b => (b < w.heap.size ∨ b = w.heap.size ∨ sv.ownBlock = some b) ∨ w2.heap.size ≤ b) ((kd.weaken (Y := (· = pb)) (fun i _ h => h.elim)).trans k3 (fun i _ h => h)) (fun i h => by omega) (fun i h => h) (PatsV.top hV2)
            refine ⟨B3, ?_⟩
            push_cast -dsimp
            refine rowK elI_37 rfl rfl (by omega) ?_
            intro w4 hw4
            have B4 := B3.below hw4.below B3.lt
            have z4 := hw4.size
            have hO4 := hO3.new hw4
            have P4 := P3.below hw4.below
            refine ⟨B4, ?_⟩
            push_cast -dsimp
            refine appendK2 (base := w.heap.size + 1) [ub] (enc := encP) elI_37 hO4 (by rfl) (fun j y hy => by simpa [encP, ptrP] using hw4.cell hy) encP_one (by rw [PatsV.len hV2]; simp only [List.length_cons, List.length_nil]; omega) (by omega) ?_
            intro sv5 w5 hO5 hg5 hn5
            have kg : Kept (fun j => sv.ownBlock = some j) w4 w5 := Kept.grown hg5 (fun _ h => h)
            have hog : ∀ g, sv.ownBlock = some g → w.heap.size + 1 ≤ g := fun g hg => (hO2.block g hg).1
            have B5 := B4.kept kg (fun h => by have := hog _ h; omega)
            have P5 := P4.kept kg (fun i h => by have := hog _ h; omega)
            have z5 := kg.size
            refine ⟨B5, ?_⟩
            obtain ⟨a5, c5, rfl⟩ := hO5.slice
            push_cast -dsimp
            refine storeK_of B5 (by simp) rfl ?_
            intro w6 hw6
            have B6 : Blk w6 w.heap.size 39 [.int .i64 4, .pointer none, .slice a5 (vs ++ [ub]).length c5, .int .i64 0, .int .i64 0] := hw6.blk
            have P6 := P5.kept hw6.kept (fun i h => by omega)
            have z6 := hw6.size
            have hO6 := hO5.keptX hw6.kept (fun g hg h => by have := (hO5.block g hg).1; omega)
            have k6 := (((kdd.trans k3 (fun i _ h => h)).trans (Kept.new (X := (· = pb)) hw4) (fun i _ h => h)).trans kg (fun i h1 h2 => by have := hog _ h2; omega)).trans hw6.kept (fun i h1 h2 => by omega)
            have kY : Kept (fun i => i = w.heap.size ∨ sv.ownBlock = some i) w3 w6 := ((Kept.new (X := fun i => i = w.heap.size ∨ sv.ownBlock = some i) hw4).trans kg (fun i _ h => .inr h)).trans hw6.kept (fun i _ h => .inl h)
            have hX : ∀ i, (i < w.heap.size ∨ i = w.heap.size ∨ (Value.slice a5 (vs ++ [ub]).length c5).ownBlock = some i) → i < w.heap.size ∨ i = w.heap.size ∨ sv.ownBlock = some i ∨ w4.heap.size ≤ i := fun i h => by
              rcases h with h | h | h
              · exact .inl h
              · exact .inr (.inl h)
              · rcases hn5 i h with h | h
                · exact .inr (.inr (.inl h))
                · exact .inr (.inr (.inr h))
            have hV6 : PatsV (fun b => b < w.heap.size ∨ b = w.heap.size ∨ (Value.slice a5 (vs ++ [ub]).length c5).ownBlock = some b) w6 (vs ++ [ub]) (acc ++ [x]) := by
              refine PatsV.snoc (PatsV.mono kY (fun i h => ?_) (fun i h => ?_) hV3) (PatV.mono kY (fun i h => ?_) (fun i h => ?_) V3.top)
              · rcases h with h | h
                · exact .inl (.inr (.inl h))
                · exact .inl (.inr (.inr h))
              · rcases hX i h with h | h | h | h
                · exact .inl (.inl h)
                · exact .inl (.inr (.inl h))
                · exact .inl (.inr (.inr h))
                · exact .inr (by omega)
              · rcases h with h | h
                · exact .inl (by omega)
                · exact .inl (hob i h)
              · rcases hX i h with h | h | h | h
                · exact .inl (by omega)
                · exact .inl (by omega)
                · exact .inl (hob i h)
                · exact .inr (by omega)
            have hlen6 := P6.len
            have hlen1 := hP1.len
            have hnx : rowLoop (againW d (unitP d)) m' (acc ++ [x]) l2 = rowLoop (againW d (unitP d)) 1000 [] l0 := by rw [← hm2, hstep, pb_of hp]
            push_cast -dsimp
            exact ⟨⟨m', acc ++ [x], l2, _, vs ++ [ub], hnx, by omega, by rw [List.length_append, List.length_singleton]; omega, B6, hO6, hV6, P6, k6⟩, by rw [hlen6, hlen1]; exact hl2⟩
        | false =>
          rw [hs2, Bool.false_or] at hstP
          push_cast -dsimp
          refine callK_of (see_c [40] P2) ?_
          rintro _ w3 ⟨rfl, hw3⟩
          obtain rfl : w2 = w3 := hw3.symm
          cases hs3 : seeP [40] l1 with
          | true =>
            have hst : startP l1 = true := by rw [hstP, hs3]
            push_cast -dsimp
            -- at world w2: hB2 hO2 hV2 P2 k2
            have hm1 : ∃ m', m = m' + 1 := ⟨m - 1, by omega⟩
            obtain ⟨m', hmm⟩ := hm1
            have hz2 : w.heap.size < w2.heap.size := hB2.lt
            have kd : Kept (fun _ => False) w2 w2.drew := (Kept.refl _ _).drew
            have hBd := hB2.kept kd (fun h => h)
            have Pd := P2.kept kd (fun i h => h.elim)
            have kdd := k2.trans kd (fun i h1 h2 => h2.elim)
            have d2 : w2.drew.cell? ⟨w.heap.size, 2, none⟩ = some sv := hBd.cell rfl
            have hstep : rowLoop (againW d (unitP d)) m acc l1 = Cae.pb (againW d (unitP d)) (fun x => rowLoop (againW d (unitP d)) m' (acc ++ [x])) l1 := by
              rw [hmm, rowLoop]
              unfold pif
              rw [hst, if_pos rfl]
            cases hp : againW d (unitP d) l1 with
            | error e =>
              refine wpL_boom (E := PThr pb w l0 (rowW (againW d (unitP d)))) [(), (), (), (), (), (), ()] mixed (by kernel_rfl) (fun ce te we hE => ?_) ?_
              · push_cast -dsimp
                exact hE
              · push_cast -dsimp [d2]
                refine ⟨fun w'' h => by rw [h, d2]; exact rfl, ?_⟩
                refine callB_of (ha n hn0 hn pb B w2.drew l1 Pd) (fun v we ⟨x, l', h1, _⟩ => by rw [hp] at h1; cases h1) ?_
                rintro ce we ⟨en, pos, he, ht, hke⟩
                refine ⟨en, pos, ?_, ht.mono (by have := kdd.size; omega), kdd.trans hke (fun i _ h => h)⟩
                have hl : rowLoop (againW d (unitP d)) 1000 [] l0 = .error (en, pos) := by
                  rw [← hm2, hstep]
                  unfold Cae.pb
                  rw [he]
                unfold rowW Cae.pb
                rw [hl]
            | ok q =>
              obtain ⟨x, l2⟩ := q
              have hl2 : l2.length < l1.length := again_less hp
              refine wpL_lastN (fun w' => Blk w' w.heap.size 39 [.int .i64 4, .pointer none, sv, .int .i64 0, .int .i64 0]) mixed (by kernel_rfl) (by simp) hB2.drew ?_
              push_cast -dsimp [d2]
              refine ⟨fun w'' h => by rw [Blk.cell h (o := 2) rfl]; exact rfl, ?_⟩
              refine callP_of (ha n hn0 hn pb B w2.drew l1 Pd) ?_ (fun ce we ⟨en, pos, he, _⟩ => by rw [hp] at he; cases he)
              rintro u w3 ⟨x', l2', e3, V3, P3, k3⟩
              obtain ⟨rfl, rfl⟩ : x = x' ∧ l2 = l2' := by rw [hp] at e3; cases e3; exact ⟨rfl, rfl⟩
              obtain ⟨ub, rfl, hub, hubX⟩ := V3.ptr
              have B3 := hBd.kept k3 (by omega)
              have z3 := k3.size
              have hzd : w2.heap.size = w2.drew.heap.size := rfl
              have hob : ∀ g, sv.ownBlock = some g → g < w2.heap.size := fun g hg => (hO2.block g hg).2
              have hO3 := (hO2.keptX kd (fun g _ h => h)).keptX k3 (fun g hg h => by have := (hO2.block g hg).1; omega)
              have hV3 := PatsV.mono (X' := fun b => (b < w.heap.size ∨ b = w.heap.size ∨ sv.ownBlock = some b) ∨ w2.heap.size ≤ b) ((kd.weaken (Y := (· = pb)) (fun i _ h => h.elim)).trans k3 (fun i _ h => h)) (fun i h => by omega) (fun i h => h) (PatsV.top hV2)
              refine ⟨B3, ?_⟩
              push_cast -dsimp
              refine rowK elI_37 rfl rfl (by omega) ?_
              intro w4 hw4
              have B4 := B3.below hw4.below B3.lt
              have z4 := hw4.size
              have hO4 := hO3.new hw4
              have P4 := P3.below hw4.below
              refine ⟨B4, ?_⟩
              push_cast -dsimp
              refine appendK2 (base := w.heap.size + 1) [ub] (enc := encP) elI_37 hO4 (by rfl) (fun j y hy => by simpa [encP, ptrP] using hw4.cell hy) encP_one (by rw [PatsV.len hV2]; simp only [List.length_cons, List.length_nil]; omega) (by omega) ?_
              intro sv5 w5 hO5 hg5 hn5
              have kg : Kept (fun j => sv.ownBlock = some j) w4 w5 := Kept.grown hg5 (fun _ h => h)
              have hog : ∀ g, sv.ownBlock = some g → w.heap.size + 1 ≤ g := fun g hg => (hO2.block g hg).1
              have B5 := B4.kept kg (fun h => by have := hog _ h; omega)
              have P5 := P4.kept kg (fun i h => by have := hog _ h; omega)
              have z5 := kg.size
              refine ⟨B5, ?_⟩
              obtain ⟨a5, c5, rfl⟩ := hO5.slice
              push_cast -dsimp
              refine storeK_of B5 (by simp) rfl ?_
              intro w6 hw6
              have B6 : Blk w6 w.heap.size 39 [.int .i64 4, .pointer none, .slice a5 (vs ++ [ub]).length c5, .int .i64 0, .int .i64 0] := hw6.blk
              have P6 := P5.kept hw6.kept (fun i h => by omega)
              have z6 := hw6.size
              have hO6 := hO5.keptX hw6.kept (fun g hg h => by have := (hO5.block g hg).1; omega)
              have k6 := (((kdd.trans k3 (fun i _ h => h)).trans (Kept.new (X := (· = pb)) hw4) (fun i _ h => h)).trans kg (fun i h1 h2 => by have := hog _ h2; omega)).trans hw6.kept (fun i h1 h2 => by omega)
              have kY : Kept (fun i => i = w.heap.size ∨ sv.ownBlock = some i) w3 w6 := ((Kept.new (X := fun i => i = w.heap.size ∨ sv.ownBlock = some i) hw4).trans kg (fun i _ h => .inr h)).trans hw6.kept (fun i _ h => .inl h)
              have hX : ∀ i, (i < w.heap.size ∨ i = w.heap.size ∨ (Value.slice a5 (vs ++ [ub]).length c5).ownBlock = some i) → i < w.heap.size ∨ i = w.heap.size ∨ sv.ownBlock = some i ∨ w4.heap.size ≤ i := fun i h => by
                rcases h with h | h | h
                · exact .inl h
                · exact .inr (.inl h)
                · rcases hn5 i h with h | h
                  · exact .inr (.inr (.inl h))
                  · exact .inr (.inr (.inr h))
              have hV6 : PatsV (fun b => b < w.heap.size ∨ b = w.heap.size ∨ (Value.slice a5 (vs ++ [ub]).length c5).ownBlock = some b) w6 (vs ++ [ub]) (acc ++ [x]) := by
                refine PatsV.snoc (PatsV.mono kY (fun i h => ?_) (fun i h => ?_) hV3) (PatV.mono kY (fun i h => ?_) (fun i h => ?_) V3.top)
                · rcases h with h | h
                  · exact .inl (.inr (.inl h))
                  · exact .inl (.inr (.inr h))
                · rcases hX i h with h | h | h | h
                  · exact .inl (.inl h)
                  · exact .inl (.inr (.inl h))
                  · exact .inl (.inr (.inr h))
                  · exact .inr (by omega)
                · rcases h with h | h
                  · exact .inl (by omega)
                  · exact .inl (hob i h)
                · rcases hX i h with h | h | h | h
                  · exact .inl (by omega)
                  · exact .inl (by omega)
                  · exact .inl (hob i h)
                  · exact .inr (by omega)
              have hlen6 := P6.len
              have hlen1 := hP1.len
              have hnx : rowLoop (againW d (unitP d)) m' (acc ++ [x]) l2 = rowLoop (againW d (unitP d)) 1000 [] l0 := by rw [← hm2, hstep, pb_of hp]
              push_cast -dsimp
              exact ⟨⟨m', acc ++ [x], l2, _, vs ++ [ub], hnx, by omega, by rw [List.length_append, List.length_singleton]; omega, B6, hO6, hV6, P6, k6⟩, by rw [hlen6, hlen1]; exact hl2⟩
          | false =>
            have hst : startP l1 = false := by rw [hstP, hs3]
            have hfin : rowW (againW d (unitP d)) l0 = .ok (rowOf acc, l1) := by
              have hl : rowLoop (againW d (unitP d)) 1000 [] l0 = .ok (acc, l1) := by
                rw [← hm2]
                obtain ⟨m', hmm⟩ : ∃ m', m = m' + 1 := ⟨m - 1, by omega⟩
                rw [hmm, rowLoop]
                unfold pif
                rw [hst]
                rfl
              unfold rowW
              rw [pb_of hl]
              rfl
            have hV2l := PatsV.len hV2
            have hO2s := hO2.slice
            obtain ⟨va, vc, hsv⟩ := hO2s
            rw [hsv] at hB2 hO2 hV2
            have d2 : w2.cell? ⟨w.heap.size, 2, none⟩ = some (.slice va vs.length vc) := hB2.cell rfl
            have hsl := hO2.sl
            have hzs := k2.size
            push_cast -dsimp [d2]
            refine ⟨fun h1 => ?_, fun h1 => ?_⟩
            · obtain ⟨u, hvs⟩ : ∃ u, vs = [u] := List.length_eq_one_iff.1 (by omega)
              obtain ⟨x, hac⟩ : ∃ x, acc = [x] := List.length_eq_one_iff.1 (by omega)
              rw [hvs] at hsl d2 hV2
              rw [hac] at hV2 hfin
              simp only [PatsV, and_true] at hV2
              obtain ⟨b5, o5, rfl, _, hcell⟩ := hsl.get (i := 0) (x := u) rfl
              have d5 : w2.cell? ⟨b5, o5, none⟩ = some (ptrP u) := by have := hcell 0 _ rfl; simpa using this
              simp only [List.length_cons, List.length_nil, Nat.zero_add] at d2
              push_cast -dsimp [d2, Nat.zero_mul, Nat.add_zero, d5]
              refine ⟨by omega, x, l1, hfin, PatV.mono (Kept.refl (fun _ => False) _) (fun _ h => h.elim) (fun i h => .inl h) hV2, P2, k2⟩
            · have hne : acc.length ≠ 1 := by omega
              have hro : rowOf acc = .cat acc := by
                unfold rowOf
                split
                · rename_i x
                  exact absurd rfl hne
                · rfl
              refine ⟨.cat acc, l1, by rw [← hro]; exact hfin, ?_, P2, k2⟩
              simp only [PatV]
              exact ⟨_, _, vs, rfl, by omega, hB2, hsl.weaken (fun i h => by omega), PatsV.mono (Kept.refl (fun _ => False) _) (fun _ h => h.elim) (fun i h => .inl h) hV2⟩
  · have hst : startP l1 = true := by
      have : t1.kind = 3 := by omega
      rw [hstP, this]; rfl
    have P2 := hP1
    have hB2 := hB
    have hO2 := hO
    have hV2 := hV
    have k2 := hkw
    -- at world w': hB2 hO2 hV2 P2 k2
    have hm1 : ∃ m', m = m' + 1 := ⟨m - 1, by omega⟩
    obtain ⟨m', hmm⟩ := hm1
    have hz2 : w.heap.size < w'.heap.size := hB2.lt
    have kd : Kept (fun _ => False) w' w'.drew := (Kept.refl _ _).drew
    have hBd := hB2.kept kd (fun h => h)
    have Pd := P2.kept kd (fun i h => h.elim)
    have kdd := k2.trans kd (fun i h1 h2 => h2.elim)
    have d2 : w'.drew.cell? ⟨w.heap.size, 2, none⟩ = some sv := hBd.cell rfl
    have hstep : rowLoop (againW d (unitP d)) m acc l1 = Cae.pb (againW d (unitP d)) (fun x => rowLoop (againW d (unitP d)) m' (acc ++ [x])) l1 := by
      rw [hmm, rowLoop]
      unfold pif
      rw [hst, if_pos rfl]
    cases hp : againW d (unitP d) l1 with
    | error e =>
      refine wpL_boom (E := PThr pb w l0 (rowW (againW d (unitP d)))) [(), (), (), (), (), (), ()] mixed (by kernel_rfl) (fun ce te we hE => ?_) ?_
      · push_cast -dsimp
        exact hE
      · push_cast -dsimp [d2]
        refine ⟨fun w'' h => by rw [h, d2]; exact rfl, ?_⟩
        refine callB_of (ha n hn0 hn pb B w'.drew l1 Pd) (fun v we ⟨x, l', h1, _⟩ => by rw [hp] at h1; cases h1) ?_
        rintro ce we ⟨en, pos, he, ht, hke⟩
        refine ⟨en, pos, ?_, ht.mono (by have := kdd.size; omega), kdd.trans hke (fun i _ h => h)⟩
        have hl : rowLoop (againW d (unitP d)) 1000 [] l0 = .error (en, pos) := by
          rw [← hm2, hstep]
          unfold Cae.pb
          rw [he]
        unfold rowW Cae.pb
        rw [hl]
    | ok q =>
      obtain ⟨x, l2⟩ := q
      have hl2 : l2.length < l1.length := again_less hp
      refine wpL_lastN (fun w' => Blk w' w.heap.size 39 [.int .i64 4, .pointer none, sv, .int .i64 0, .int .i64 0]) mixed (by kernel_rfl) (by simp) hB2.drew ?_
      push_cast -dsimp [d2]
      refine ⟨fun w'' h => by rw [Blk.cell h (o := 2) rfl]; exact rfl, ?_⟩
      refine callP_of (ha n hn0 hn pb B w'.drew l1 Pd) ?_ (fun ce we ⟨en, pos, he, _⟩ => by rw [hp] at he; cases he)
      rintro u w3 ⟨x', l2', e3, V3, P3, k3⟩
      obtain ⟨rfl, rfl⟩ : x = x' ∧ l2 = l2' := by rw [hp] at e3; cases e3; exact ⟨rfl, rfl⟩
      obtain ⟨ub, rfl, hub, hubX⟩ := V3.ptr
      have B3 := hBd.kept k3 (by omega)
      have z3 := k3.size
      have hzd : w'.heap.size = w'.drew.heap.size := rfl
      have hob : ∀ g, sv.ownBlock = some g → g < w'.heap.size := fun g hg => (hO2.block g hg).2
      have hO3 := (hO2.keptX kd (fun g _ h => h)).keptX k3 (fun g hg h => by have := (hO2.block g hg).1; omega)
      have hV3 := PatsV.mono (X' := fun b => (b < w.heap.size ∨ b = w.heap.size ∨ sv.ownBlock = some b) ∨ w'.heap.size ≤ b) ((kd.weaken (Y := (· = pb)) (fun i _ h => h.elim)).trans k3 (fun i _ h => h)) (fun i h => by omega) (fun i h => h) (PatsV.top hV2)
      refine ⟨B3, ?_⟩
      push_cast -dsimp
      refine rowK elI_37 rfl rfl (by omega) ?_
      intro w4 hw4
      have B4 := B3.below hw4.below B3.lt
      have z4 := hw4.size
      have hO4 := hO3.new hw4
      have P4 := P3.below hw4.below
      refine ⟨B4, ?_⟩
      push_cast -dsimp
      refine appendK2 (base := w.heap.size + 1) [ub] (enc := encP) elI_37 hO4 (by rfl) (fun j y hy => by simpa [encP, ptrP] using hw4.cell hy) encP_one (by rw [PatsV.len hV2]; simp only [List.length_cons, List.length_nil]; omega) (by omega) ?_
      intro sv5 w5 hO5 hg5 hn5
      have kg : Kept (fun j => sv.ownBlock = some j) w4 w5 := Kept.grown hg5 (fun _ h => h)
      have hog : ∀ g, sv.ownBlock = some g → w.heap.size + 1 ≤ g := fun g hg => (hO2.block g hg).1
      have B5 := B4.kept kg (fun h => by have := hog _ h; omega)
      have P5 := P4.kept kg (fun i h => by have := hog _ h; omega)
      have z5 := kg.size
      refine ⟨B5, ?_⟩
      obtain ⟨a5, c5, rfl⟩ := hO5.slice
      push_cast -dsimp
      refine storeK_of B5 (by simp) rfl ?_
      intro w6 hw6
      have B6 : Blk w6 w.heap.size 39 [.int .i64 4, .pointer none, .slice a5 (vs ++ [ub]).length c5, .int .i64 0, .int .i64 0] := hw6.blk
      have P6 := P5.kept hw6.kept (fun i h => by omega)
      have z6 := hw6.size
      have hO6 := hO5.keptX hw6.kept (fun g hg h => by have := (hO5.block g hg).1; omega)
      have k6 := (((kdd.trans k3 (fun i _ h => h)).trans (Kept.new (X := (· = pb)) hw4) (fun i _ h => h)).trans kg (fun i h1 h2 => by have := hog _ h2; omega)).trans hw6.kept (fun i h1 h2 => by omega)
      have kY : Kept (fun i => i = w.heap.size ∨ sv.ownBlock = some i) w3 w6 := ((Kept.new (X := fun i => i = w.heap.size ∨ sv.ownBlock = some i) hw4).trans kg (fun i _ h => .inr h)).trans hw6.kept (fun i _ h => .inl h)
      have hX : ∀ i, (i < w.heap.size ∨ i = w.heap.size ∨ (Value.slice a5 (vs ++ [ub]).length c5).ownBlock = some i) → i < w.heap.size ∨ i = w.heap.size ∨ sv.ownBlock = some i ∨ w4.heap.size ≤ i := fun i h => by
        rcases h with h | h | h
        · exact .inl h
        · exact .inr (.inl h)
        · rcases hn5 i h with h | h
          · exact .inr (.inr (.inl h))
          · exact .inr (.inr (.inr h))
      have hV6 : PatsV (fun b => b < w.heap.size ∨ b = w.heap.size ∨ (Value.slice a5 (vs ++ [ub]).length c5).ownBlock = some b) w6 (vs ++ [ub]) (acc ++ [x]) := by
        refine PatsV.snoc (PatsV.mono kY (fun i h => ?_) (fun i h => ?_) hV3) (PatV.mono kY (fun i h => ?_) (fun i h => ?_) V3.top)
        · rcases h with h | h
          · exact .inl (.inr (.inl h))
          · exact .inl (.inr (.inr h))
        · rcases hX i h with h | h | h | h
          · exact .inl (.inl h)
          · exact .inl (.inr (.inl h))
          · exact .inl (.inr (.inr h))
          · exact .inr (by omega)
        · rcases h with h | h
          · exact .inl (by omega)
          · exact .inl (hob i h)
        · rcases hX i h with h | h | h | h
          · exact .inl (by omega)
          · exact .inl (by omega)
          · exact .inl (hob i h)
          · exact .inr (by omega)
      have hlen6 := P6.len
      have hlen1 := hP1.len
      have hnx : rowLoop (againW d (unitP d)) m' (acc ++ [x]) l2 = rowLoop (againW d (unitP d)) 1000 [] l0 := by rw [← hm2, hstep, pb_of hp]
      push_cast -dsimp
      exact ⟨⟨m', acc ++ [x], l2, _, vs ++ [ub], hnx, by omega, by rw [List.length_append, List.length_singleton]; omega, B6, hO6, hV6, P6, k6⟩, by rw [hlen6, hlen1]; exact hl2⟩
theorem row_le {d:Nat}{l l':List Tok}{x:PatP}(h:rowW (againW d (unitP d)) l=.ok (x,l')):l'.length≤l.length:=Lo.le (lo_rowW (lo_againW (lo_unit d))) _ _ _ h
theorem pat_of (d : Nat) (hrow : RowC d) : PatC d := by
  intro n hn0 hn pb B w l0 h0
  have hle := h0.le
  have hlt := h0.lt
  refine fun2_of_vc Tryz.func99 rfl (by kernel_rfl) [.tmp 4] rfl ?_
  push_cast -dsimp (maxSteps := 4000000) [Tryz.ntmps99]
  refine callP_of (deep_c n h0) ?_ ?_
  rotate_left
  · rintro c w' ⟨h8, ht, hb⟩
    have hd0 : d = 0 := by omega
    subst hd0
    push_cast -dsimp
    exact ⟨4, _, rfl, ht, Kept.of_below hb (fun i h1 h2 => by omega)⟩
  rintro _ w0 ⟨h8, rfl, hw0⟩
  obtain rfl : w = w0 := hw0.symm
  have hpat : patP d l0 = Cae.pb (rowW (againW d (unitP d))) (fun x => Cae.pb (altLoop (rowW (againW d (unitP d))) 1000 [x]) fun ps => pr (altOf ps)) l0 := by
    unfold patP patW
    rw [if_neg (by omega)]
    rfl
  push_cast -dsimp
  refine callP_of (hrow n hn0 hn pb B w l0 h0) ?_ ?_
  rotate_left
  · rintro c w' ⟨e, pos, he, ht, hk⟩
    push_cast -dsimp
    refine ⟨e, pos, ?_, ht, hk⟩
    rw [hpat]
    unfold Cae.pb
    rw [he]
  rintro v1 w1 ⟨x0, l1', e1, V1, P1, k1⟩
  obtain ⟨ub, rfl, hub, hubX⟩ := V1.ptr
  have z1 := k1.size
  push_cast -dsimp
  refine rowK elI_37 rfl rfl (by omega) ?_
  intro w2 hw2
  have z2 := hw2.size
  have O2 : Go.Vc.Own w.heap.size 35 1 encP w2 (.slice (some ⟨w1.heap.size, 0, none⟩) 1 1) [ub] := hw2.own (by rfl) rfl (fun _ => rfl) (by omega) (by omega)
  push_cast -dsimp
  refine boxK_of ?_
  intro w3 hw3
  have B3 := hw3.blk
  have O3 := O2.new hw3
  have P3 := (P1.below hw2.below).below hw3.below
  have k3 := (k1.trans (Kept.new (X := (· = pb)) hw2) (fun i _ h => h)).trans (Kept.new (X := (· = pb)) hw3) (fun i _ h => h)
  have V3 := (V1.top.below hw2.below).below hw3.below
  have hxb : ∃ xb, xb = w2.heap.size := ⟨_, rfl⟩
  obtain ⟨xb, hxb⟩ := hxb
  have hxb0 : w.heap.size ≤ xb := by omega
  rw [← hxb] at B3
  push_cast -dsimp [← hxb]
  refine wpL_loop [15, 16, 17, 18, 19, 20, 21, 22, 23, 24, 25, 26, 27, 28] (fun z w' => ∃ (m : Nat) (acc : List PatP) (l1 : List Tok) (sv : Value) (vs : List Nat), altLoop (rowW (againW d (unitP d))) m acc l1 = altLoop (rowW (againW d (unitP d))) 1000 [x0] l1' ∧ l1.length < m ∧ acc.length + m ≤ 1001 ∧
      Blk w' xb 39 [.int .i64 5, .pointer none, sv, .int .i64 0, .int .i64 0] ∧ Go.Vc.Own w.heap.size 35 1 encP w' sv vs ∧ (∀ g, sv.ownBlock = some g → g ≠ xb) ∧ PatsV (fun b => b < w.heap.size ∨ b = xb ∨ sv.ownBlock = some b) w' vs acc ∧ PS pb B w' l1 ∧ Kept (· = pb) w w') (fun z w' => lenAt w' pb) ?_ ?_
  · have hlt : l1'.length < 1000 := by have := P1.tl.len; omega
    have hV0 : PatsV (fun b => b < w.heap.size ∨ b = xb ∨ (Value.slice (some ⟨w1.heap.size, 0, none⟩) 1 1).ownBlock = some b) w3 [ub] [x0] := by
      simp only [PatsV, and_true]
      refine PatV.mono (Kept.refl (fun _ => False) _) (fun _ h => h.elim) (fun i h => ?_) V3
      rcases h with h | h | h
      · exact .inl h
      · exact .inr (by omega)
      · have : w1.heap.size = i := by simpa [Value.ownBlock] using h
        exact .inr (by omega)
    have hne0 : ∀ g, (Value.slice (some ⟨w1.heap.size, 0, none⟩) 1 1).ownBlock = some g → g ≠ xb := fun g hg => by
      have : w1.heap.size = g := by simpa [Value.ownBlock] using hg
      omega
    exact ⟨1000, [x0], l1', _, [ub], rfl, hlt, by simp, B3, O3, hne0, hV0, P3, k3⟩
  rintro z w' ⟨m, acc, l1, sv, vs, hm2, hm, hacc, hBq, hOq, hne2, hVq, hP1, kq⟩
  have hzw := kq.size
  push_cast -dsimp [← hxb]
  refine callK_of (take_c [124] hP1) ?_
  rintro _ w2' hT
  rcases hT with ⟨hst, rfl, t1, r1', el1, h51, P2, kt, hz⟩ | ⟨hst, rfl, hww⟩
  · have hpop : popP l1 = .ok ((), r1') := by rw [el1]; exact popP_cons h51
    have hl1 : l1.length = r1'.length + 1 := by rw [el1, List.length_cons]
    have hB2 := hBq.kept kt (by omega)
    have hO2 := hOq.keptX kt (fun g hg h => by have := (hOq.block g hg).1; omega)
    have hV2 : PatsV (fun b => b < w.heap.size ∨ b = xb ∨ sv.ownBlock = some b) w2' vs acc := PatsV.mono kt (fun i h => by omega) (fun i h => h) hVq
    have k2 := kq.trans kt (fun i _ h => h)
    push_cast -dsimp [← hxb]
    -- at world w2': hB2 hO2 hV2 P2 k2
    have hm1 : ∃ m', m = m' + 1 := ⟨m - 1, by omega⟩
    obtain ⟨m', hmm⟩ := hm1
    have hz2 : xb < w2'.heap.size := hB2.lt
    have kd : Kept (fun _ => False) w2' w2'.drew := (Kept.refl _ _).drew
    have hBd := hB2.kept kd (fun h => h)
    have Pd := P2.kept kd (fun i h => h.elim)
    have kdd := k2.trans kd (fun i h1 h2 => h2.elim)
    have d2 : w2'.drew.cell? ⟨xb, 2, none⟩ = some sv := hBd.cell rfl
    have hstep : altLoop (rowW (againW d (unitP d))) m acc l1 = Cae.pb (rowW (againW d (unitP d))) (fun x => altLoop (rowW (againW d (unitP d))) m' (acc ++ [x])) r1' := by
      rw [hmm, altLoop]
      unfold pif
      rw [hst, if_pos rfl, pb_of hpop]
    cases hp : rowW (againW d (unitP d)) r1' with
    | error e =>
      refine wpL_boom (E := PThr pb w l0 (patP d)) [(), (), (), (), (), (), ()] mixed (by kernel_rfl) (fun ce te we hE => ?_) ?_
      · push_cast -dsimp
        exact hE
      · push_cast -dsimp [d2]
        refine ⟨fun w'' h => by rw [h, d2]; exact rfl, ?_⟩
        refine callB_of (hrow n hn0 hn pb B w2'.drew r1' Pd) (fun v we ⟨x, l', h1, _⟩ => by rw [hp] at h1; cases h1) ?_
        rintro ce we ⟨en, pos, he, ht, hke⟩
        refine ⟨en, pos, ?_, ht.mono (by have := kdd.size; omega), kdd.trans hke (fun i _ h => h)⟩
        have hl : altLoop (rowW (againW d (unitP d))) 1000 [x0] l1' = .error (en, pos) := by
          rw [← hm2, hstep]
          unfold Cae.pb
          rw [he]
        rw [hpat, pb_of e1]
        unfold Cae.pb
        rw [hl]
    | ok q =>
      obtain ⟨x, l2⟩ := q
      have hl2 : l2.length < l1.length := by
        have := row_le hp
        rw [hl1]; omega
      refine wpL_lastN (fun w' => Blk w' xb 39 [.int .i64 5, .pointer none, sv, .int .i64 0, .int .i64 0]) mixed (by kernel_rfl) (by simp) hB2.drew ?_
      push_cast -dsimp [d2]
      refine ⟨fun w'' h => by rw [Blk.cell h (o := 2) rfl]; exact rfl, ?_⟩
      refine callP_of (hrow n hn0 hn pb B w2'.drew r1' Pd) ?_ (fun ce we ⟨en, pos, he, _⟩ => by rw [hp] at he; cases he)
      rintro u w3 ⟨x', l2', e3, V3, P3, k3⟩
      obtain ⟨rfl, rfl⟩ : x = x' ∧ l2 = l2' := by rw [hp] at e3; cases e3; exact ⟨rfl, rfl⟩
      obtain ⟨ub, rfl, hub, hubX⟩ := V3.ptr
      have B3 := hBd.kept k3 (by omega)
      have z3 := k3.size
      have hzd : w2'.heap.size = w2'.drew.heap.size := rfl
      have hob : ∀ g, sv.ownBlock = some g → g < w2'.heap.size := fun g hg => (hO2.block g hg).2
      have hO3 := (hO2.keptX kd (fun g _ h => h)).keptX k3 (fun g hg h => by have := (hO2.block g hg).1; omega)
      have hV3 := PatsV.mono (X' := fun b => (b < w.heap.size ∨ b = xb ∨ sv.ownBlock = some b) ∨ w2'.heap.size ≤ b) ((kd.weaken (Y := (· = pb)) (fun i _ h => h.elim)).trans k3 (fun i _ h => h)) (fun i h => by omega) (fun i h => h) (PatsV.top hV2)
      refine ⟨B3, ?_⟩
      push_cast -dsimp
      refine rowK elI_37 rfl rfl (by omega) ?_
      intro w4 hw4
      have B4 := B3.below hw4.below B3.lt
      have z4 := hw4.size
      have hO4 := hO3.new hw4
      have P4 := P3.below hw4.below
      refine ⟨B4, ?_⟩
      push_cast -dsimp
      refine appendK2 (base := w.heap.size) [ub] (enc := encP) elI_37 hO4 (by rfl) (fun j y hy => by simpa [encP, ptrP] using hw4.cell hy) encP_one (by rw [PatsV.len hV2]; simp only [List.length_cons, List.length_nil]; omega) (by omega) ?_
      intro sv5 w5 hO5 hg5 hn5
      have kg : Kept (fun j => sv.ownBlock = some j) w4 w5 := Kept.grown hg5 (fun _ h => h)
      have hog : ∀ g, sv.ownBlock = some g → w.heap.size ≤ g ∧ g ≠ xb := fun g hg => ⟨(hO2.block g hg).1, hne2 g hg⟩
      have B5 := B4.kept kg (fun h => by have := hog _ h; omega)
      have P5 := P4.kept kg (fun i h => by have := hog _ h; omega)
      have z5 := kg.size
      refine ⟨B5, ?_⟩
      obtain ⟨a5, c5, rfl⟩ := hO5.slice
      push_cast -dsimp
      refine storeK_of B5 (by simp) rfl ?_
      intro w6 hw6
      have B6 : Blk w6 xb 39 [.int .i64 5, .pointer none, .slice a5 (vs ++ [ub]).length c5, .int .i64 0, .int .i64 0] := hw6.blk
      have P6 := P5.kept hw6.kept (fun i h => by omega)
      have z6 := hw6.size
      have hne6 : ∀ g, (Value.slice a5 (vs ++ [ub]).length c5).ownBlock = some g → g ≠ xb := fun g hg => by
        rcases hn5 g hg with h | h
        · exact (hog g h).2
        · omega
      have hO6 := hO5.keptX hw6.kept (fun g hg h => hne6 g hg h)
      have k6 := (((kdd.trans k3 (fun i _ h => h)).trans (Kept.new (X := (· = pb)) hw4) (fun i _ h => h)).trans kg (fun i h1 h2 => by have := hog _ h2; omega)).trans hw6.kept (fun i h1 h2 => by omega)
      have kY : Kept (fun i => i = xb ∨ sv.ownBlock = some i) w3 w6 := ((Kept.new (X := fun i => i = xb ∨ sv.ownBlock = some i) hw4).trans kg (fun i _ h => .inr h)).trans hw6.kept (fun i _ h => .inl h)
      have hX : ∀ i, (i < w.heap.size ∨ i = xb ∨ (Value.slice a5 (vs ++ [ub]).length c5).ownBlock = some i) → i < w.heap.size ∨ i = xb ∨ sv.ownBlock = some i ∨ w4.heap.size ≤ i := fun i h => by
        rcases h with h | h | h
        · exact .inl h
        · exact .inr (.inl h)
        · rcases hn5 i h with h | h
          · exact .inr (.inr (.inl h))
          · exact .inr (.inr (.inr h))
      have hV6 : PatsV (fun b => b < w.heap.size ∨ b = xb ∨ (Value.slice a5 (vs ++ [ub]).length c5).ownBlock = some b) w6 (vs ++ [ub]) (acc ++ [x]) := by
        refine PatsV.snoc (PatsV.mono kY (fun i h => ?_) (fun i h => ?_) hV3) (PatV.mono kY (fun i h => ?_) (fun i h => ?_) V3.top)
        · rcases h with h | h
          · exact .inl (.inr (.inl h))
          · exact .inl (.inr (.inr h))
        · rcases hX i h with h | h | h | h
          · exact .inl (.inl h)
          · exact .inl (.inr (.inl h))
          · exact .inl (.inr (.inr h))
          · exact .inr (by omega)
        · rcases h with h | h
          · exact .inl (by omega)
          · exact .inl (hob i h)
        · rcases hX i h with h | h | h | h
          · exact .inl (by omega)
          · exact .inl (by omega)
          · exact .inl (hob i h)
          · exact .inr (by omega)
      have hlen6 := P6.len
      have hlen1 := hP1.len
      have hnx : altLoop (rowW (againW d (unitP d))) m' (acc ++ [x]) l2 = altLoop (rowW (againW d (unitP d))) 1000 [x0] l1' := by rw [← hm2, hstep, pb_of hp]
      push_cast -dsimp
      exact ⟨⟨m', acc ++ [x], l2, _, vs ++ [ub], hnx, by omega, by rw [List.length_append, List.length_singleton]; omega, B6, hO6, hne6, hV6, P6, k6⟩, by rw [hlen6, hlen1]; exact hl2⟩
  · obtain rfl : w' = w2' := hww.symm
    have hfin : patP d l0 = .ok (altOf acc, l1) := by
      have hl : altLoop (rowW (againW d (unitP d))) 1000 [x0] l1' = .ok (acc, l1) := by
        rw [← hm2]
        obtain ⟨m', hmm⟩ : ∃ m', m = m' + 1 := ⟨m - 1, by omega⟩
        rw [hmm, altLoop]
        unfold pif
        rw [hst]
        rfl
      rw [hpat, pb_of e1, pb_of hl]
      rfl
    have hB2 := hBq
    have hO2 := hOq
    have hV2 := hVq
    have P2 := hP1
    have k2 := kq
    have hV2l := PatsV.len hV2
    have hO2s := hO2.slice
    obtain ⟨va, vc, hsv⟩ := hO2s
    rw [hsv] at hB2 hO2 hV2
    have d2 : w'.cell? ⟨xb, 2, none⟩ = some (.slice va vs.length vc) := hB2.cell rfl
    have hsl := hO2.sl
    have hzs := k2.size
    push_cast -dsimp [d2]
    refine ⟨fun h1 => ?_, fun h1 => ?_⟩
    · obtain ⟨u, hvs⟩ : ∃ u, vs = [u] := List.length_eq_one_iff.1 (by omega)
      obtain ⟨x, hac⟩ : ∃ x, acc = [x] := List.length_eq_one_iff.1 (by omega)
      rw [hvs] at hsl d2 hV2
      rw [hac] at hV2 hfin
      simp only [PatsV, and_true] at hV2
      obtain ⟨b5, o5, rfl, _, hcell⟩ := hsl.get (i := 0) (x := u) rfl
      have d5 : w'.cell? ⟨b5, o5, none⟩ = some (ptrP u) := by have := hcell 0 _ rfl; simpa using this
      simp only [List.length_cons, List.length_nil, Nat.zero_add] at d2
      push_cast -dsimp [d2, Nat.zero_mul, Nat.add_zero, d5]
      refine ⟨by omega, x, l1, hfin, PatV.mono (Kept.refl (fun _ => False) _) (fun _ h => h.elim) (fun i h => .inl h) hV2, P2, k2⟩
    · have hne : acc.length ≠ 1 := by omega
      have hro : altOf acc = .alt acc := by
        unfold altOf
        split
        · rename_i x
          exact absurd rfl hne
        · rfl
      refine ⟨.alt acc, l1, by rw [← hro]; exact hfin, ?_, P2, k2⟩
      simp only [PatV]
      exact ⟨_, _, vs, rfl, by omega, hB2, hsl.weaken (fun i h => by omega), PatsV.mono (Kept.refl (fun _ => False) _) (fun _ h => h.elim) (fun i h => .inl h) hV2⟩
end Go.Proofs.YtledlfbbebodgaaGreatDoor
end
