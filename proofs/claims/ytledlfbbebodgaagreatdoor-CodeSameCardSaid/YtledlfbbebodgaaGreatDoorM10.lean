/- Lemmas. -/
import Derived.Test.YtledlfbbebodgaaGreatDoorM9
set_option maxRecDepth 100000
set_option linter.unusedSimpArgs false
set_option linter.unusedVariables false
set_option maxHeartbeats 8000000
section
namespace Go.Proofs.YtledlfbbebodgaaGreatDoor
open Go.Vc Go.Proofs Go.RowKit Cae
attribute [local irreducible] wpL callK valK unitK runK Fun Sl Vc.Own vc vcOps opK pureK
def ptsU (us:List U):List Int:=us.map fun u=>(u.p:Int)
theorem ptsU_len (us:List U):(ptsU us).length=us.length:=by simp[ptsU]
theorem ptsU_get {us:List U}{i:Nat}{u:U}(h:us[i]?=some u):(ptsU us)[i]?=some (u.p:Int):=by unfold ptsU;rw[List.getElem?_map,h];rfl
def hasN (nm:NamesP)(k:KindP)(p:Int):Prop:=∃s,kindS nm k=.ok s∧hasP s p=true
structure Mr (X:Nat→Prop)(w:World)(rb mb:Nat)(us:List U)(nm:NamesP)(back:Bool):Prop where
 st:∃lv,Blk w rb 106 [lv,.map (some mb),.bool back]∧Sl X 3 (En encU) w lv us
 nv:NamV X w mb nm
 rt:RightN nm
 len:us.length≤1000
theorem Mr.below {X:Nat→Prop}{w w':World}{rb mb:Nat}{us:List U}{nm:NamesP}{back:Bool}(h:Mr X w rb mb us nm back)(hb:Below w.heap.size w w'):Mr X w' rb mb us nm back:=by
 obtain⟨lv,h1,h2⟩:=h.st;exact⟨⟨lv,h1.below hb h1.lt,h2.below hb⟩,h.nv.below hb,h.rt,h.len⟩
theorem below_drewM (w:World):Below w.heap.size w w.drew:=((Kept.refl (fun _=>False) w).drew).below (Nat.le_refl _) (fun _ h=>h.elim)
def StepR (pts:List Int)(back:Bool)(i:Nat)(r:Value):Prop:=(∃(j:Nat) (p:Int),stepM pts back i=some (j,p)∧r=.tuple #[.int .i64 j,.int .i64 p])∨(stepM pts back i=none∧r=.tuple #[.int .i64 (-1),.int .i64 0])
theorem step_c {X:Nat→Prop}{w:World}{rb mb:Nat}{us:List U}{nm:NamesP}{back:Bool}(h:Mr X w rb mb us nm back)(i:Nat)(hi:i≤us.length) :
  Fun Tryz.prog 70 [.pointer (some ⟨rb,0,none⟩),.int .i64 i] w fun r w'=>StepR (ptsU us) back i r∧Below w.heap.size w w':=by
 have hlen:=h.len;obtain⟨lv,hB,hs⟩:=h.st;obtain⟨la,lc,rfl,hlc⟩:=hs.shape;have d0:w.cell? ⟨rb,0,none⟩=some (.slice la us.length lc):=hB.cell rfl;have d2:w.cell? ⟨rb,2,none⟩=some (.bool back):=hB.cell rfl;have d0d:w.drew.cell? ⟨rb,0,none⟩=some (.slice la us.length lc):=d0;cases back with
 | true =>
  (refine fun_of_vc Tryz.func70 rfl (by kernel_rfl) [4,5] rfl ?_;push_cast -dsimp(maxSteps:=4000000) [Tryz.ntmps70]);push_cast -dsimp[d2];refine⟨fun h0=>⟨.inr ⟨?_,rfl⟩,Below.refl _ _⟩,fun h0=>?_⟩
  ·have:i=0:=by omega
   subst this;simp[stepM]
  ·obtain⟨u,hu⟩:∃u,us[i-1]?=some u:=⟨us[i-1]'(by omega),List.getElem?_eq_getElem (by omega)⟩;obtain⟨b,o,rfl,hX,hcell⟩:=hs.get hu;have c0:w.cell? ⟨b,o+(i-1)*3,none⟩=some (.int .i64 u.p):=by simpa using hcell 0 _ rfl
   have c0d:w.drew.cell? ⟨b,o+(i-1)*3,none⟩=some (.int .i64 u.p):=c0;have tn:((i:Int)-1).toNat=i-1:=by omega
   refine wpL_drawN (fun w'=>∀a,w'.cell? a=w.cell? a) mixed (by kernel_rfl) (fun _=>rfl) ?_;push_cast -dsimp[d0d,tn,c0d];have ei:((i:Int)-1)=((i-1:Nat):Int):=by omega
   refine⟨⟨by omega,by omega⟩,fun w'' h=>by rw[h,d0];exact rfl,⟨by omega,by omega⟩,⟨by omega,by omega⟩,fun w'' h=>by rw[h,c0];exact rfl,.inl ⟨i-1,u.p,?_,by rw[ei]⟩,below_drewM w⟩;unfold stepM;rw[if_pos rfl,if_neg (by omega),ptsU_get hu];rfl
 | false =>
  (refine fun_of_vc Tryz.func70 rfl (by kernel_rfl) [4,5] rfl ?_;push_cast -dsimp(maxSteps:=4000000) [Tryz.ntmps70]);push_cast -dsimp[d2,d0];refine⟨fun h0=>⟨.inr ⟨?_,rfl⟩,Below.refl _ _⟩,fun h0=>?_⟩
  ·unfold stepM;rw[if_neg (by simp),List.getElem?_eq_none (by rw[ptsU_len];omega)];rfl
  ·obtain⟨u,hu⟩:∃u,us[i]?=some u:=⟨us[i]'(by omega),List.getElem?_eq_getElem (by omega)⟩;obtain⟨b,o,rfl,hX,hcell⟩:=hs.get hu;have c0:w.cell? ⟨b,o+i*3,none⟩=some (.int .i64 u.p):=by simpa using hcell 0 _ rfl
   have c0d:w.drew.cell? ⟨b,o+i*3,none⟩=some (.int .i64 u.p):=c0;refine wpL_drawN (fun w'=>∀a,w'.cell? a=w.cell? a) mixed (by kernel_rfl) (fun _=>rfl) ?_;push_cast -dsimp[d0d,c0d];have ei:((i:Int)+1)=((i+1:Nat):Int):=by omega
   refine⟨⟨by omega,by omega⟩,fun w'' h=>by rw[h,d0];exact rfl,⟨by omega,by omega⟩,fun w'' h=>by rw[h,c0];exact rfl,.inl ⟨i+1,u.p,?_,by rw[ei]⟩,below_drewM w⟩;unfold stepM;rw[if_neg (by simp),ptsU_get hu];rfl
theorem has_c2 {X:Nat→Prop}{w:World}{rb mb:Nat}{us:List U}{nm:NamesP}{back:Bool}(h:Mr X w rb mb us nm back)(k:KindP)(hk:KindOk k)(v:Value)(hv:KindV X w v k)(p:Int) :
  Fun Tryz.prog 71 [.pointer (some ⟨rb,0,none⟩),v,.int .i64 p] w fun r w'=>(∃b:Bool,r=.bool b∧(b=true↔hasN nm k p))∧Below w.heap.size w w':=by
 obtain⟨lv,hB,hs⟩:=h.st;have d1:w.cell? ⟨rb,1,none⟩=some (.map (some mb)):=hB.cell rfl;refine fun_of_vc Tryz.func71 rfl (by kernel_rfl) [6] rfl ?_;push_cast -dsimp(maxSteps:=4000000) [Tryz.ntmps71];push_cast -dsimp[d1];refine callK_of (ckind_c k hk nm h.rt X v mb w hv h.nv) ?_;rintro r w1 ⟨hR,hb1⟩;have z1:=hb1.size;unfold KindRes at hR;cases hks:kindS nm k with
 | ok s =>
  rw[hks]at hR;obtain⟨v1,rfl,hs1,ha1⟩:=hR;have hrs:=kindS_right h.rt hk hks;have hls:=right_len hrs;obtain⟨_,_,rfl,_⟩:=hs1.shape;push_cast -dsimp;refine callK_of (has_c s (by omega) hrs p _ _ w1 hs1) ?_;rintro _ w2 ⟨rfl,hb2⟩;push_cast -dsimp;exact⟨⟨_,rfl,fun hh=>⟨s,hks,hh⟩,fun⟨t,ht,hh⟩=>by rw[hks]at ht;cases ht;exact hh⟩,hb1.trans (hb2.mono z1)⟩
 | error e =>
  rw[hks]at hR;obtain⟨eb,heb,rfl,hE⟩:=hR;push_cast -dsimp;refine⟨⟨false,rfl,?_⟩,hb1⟩;constructor
  ·intro hh;cases hh
  ·rintro⟨t,ht,hh⟩;rw[hks]at ht;cases ht
end Go.Proofs.YtledlfbbebodgaaGreatDoor
end
section
namespace Cae
open Classical
noncomputable def stepF (P:Int→Prop)(pts:List Int)(back:Bool)(i:Nat):Option Nat:=match stepM pts back i with
 | some (j,p)=>if P p then some j else none
 | none=>none
theorem stepF_mem {P:Int→Prop}{pts:List Int}{back:Bool}{l:List Nat}{j:Nat}:j∈l.filterMap (stepF P pts back)↔∃i∈l,∃p,stepM pts back i=some (j,p)∧P p:=by
 rw[List.mem_filterMap];refine exists_congr fun i=>and_congr Iff.rfl ?_;unfold stepF;cases h:stepM pts back i with
 | none=>simp
 | some q =>
  obtain⟨k,p⟩:=q;by_cases hp:P p
  ·simp[hp];constructor
   ·intro hkj;exact⟨p,⟨hkj,rfl⟩,hp⟩
   ·rintro⟨p',⟨h1,_⟩,_⟩;exact h1
  ·simp[hp]
end Cae
namespace Go.Proofs.YtledlfbbebodgaaGreatDoor
open Go.Vc Go.Proofs Go.RowKit Cae
attribute [local irreducible] wpL callK valK unitK runK Fun Sl Vc.Own vc vcOps opK pureK
def AllC (x:PatP):Prop:=PatOk x→wd x≤100000→∀(X:Nat→Prop) (w:World) (rb mb:Nat) (us:List U) (nm:NamesP) (back:Bool),Mr X w rb mb us nm back→∀(v:Value),PatV X w v x→∀(fv:Value) (from_:List Nat),Sl (fun _=>False) 1 (En encN) w fv from_→Arg fv→from_.Pairwise (·<·)→(∀i∈from_,i≤us.length) →
 Fun Tryz.prog 46 [.pointer (some ⟨rb,0,none⟩),v,fv] w fun r w'=>Vc.Own w.heap.size 3 1 encN w' r (imgM us.length (Rch (hasN nm) (ptsU us) back x) from_)∧Below w.heap.size w w'
theorem intsN_inj {a b:List Nat}(h:intsN a=intsN b):a=b:=by
 have:=congrArg (List.map Int.toNat) h;unfold intsN at this;rw[List.map_map,List.map_map]at this;have e:(Int.toNat∘fun n:Nat=>(n:Int))=id:=funext fun n=>by simp
 rw[e,List.map_id,List.map_id]at this;exact this
theorem fin_is {N:Nat}{R:Nat→Nat→Prop}{from_ L m1 m2:List Nat}(h1:intsN m1=((intsN L).mergeSort fun x y=>decide (x≤y)))(h2:intsN m2=Lib.compact (intsN m1))(hm:∀j,j∈L↔j≤N∧∃i∈from_,R i j):m2=imgM N R from_:=by
 obtain⟨m,e,hp,hmem⟩:=sorted_compact L;rw[←h1,←h2]at e;have e:=intsN_inj e;subst e;exact imgM_of hp fun j=>by rw[hmem j,hm j]
theorem fin_len {L m1:List Nat}(h1:intsN m1=((intsN L).mergeSort fun x y=>decide (x≤y))):m1.length=L.length:=by
 have:=congrArg List.length h1;rw[(List.mergeSort_perm _ _).length_eq]at this;simpa[intsN] using this
theorem all_edge : AllC .edge := by
  intro hok hpn X w rb mb us nm back h v hV fv from_ hf ha hr hle
  have hlen := h.len
  have hfl := rise_len hr hle
  simp only [PatV] at hV
  obtain ⟨b, rfl, hb, hB⟩ := hV
  obtain ⟨fa, fc, rfl, hfc⟩ := hf.shape
  have d0 : w.cell? ⟨b, 0, none⟩ = some (.int .i64 3) := hB.cell rfl
  refine fun_of_vc Tryz.func46 rfl (by kernel_rfl) [6] rfl ?_
  push_cast -dsimp (maxSteps := 4000000) [Tryz.ntmps46]
  push_cast -dsimp [d0]
  refine wpL_loop [7, 13, 14, 15, 70, 71, 72, 73, 74, 75, 76, 77, 78, 79, 80, 81, 82, 83, 84, 85, 86] (fun z wx => ∃ (i : Nat) (ov : Value), z 70 = .int .i64 i ∧ z 7 = ov ∧ i ≤ from_.length ∧ Vc.Own w.heap.size 3 1 encN wx ov ((from_.take i).filter fun a => (stepM (ptsU us) back a).isNone) ∧ Below w.heap.size w wx) (fun z _ => from_.length - (intOf (z 70)).toNat) ?_ ?_
  · exact ⟨0, _, rfl, rfl, Nat.zero_le _, Vc.Own.nil (enc := encN) _ _ (fun _ => rfl) _, Below.refl _ _⟩
  · intro z wx hI
    obtain ⟨i, ov, h70, h7, hi, hO, hbx⟩ := hI
    have zx := hbx.size
    push_cast -dsimp [h70, h7]
    refine ⟨fun hlt => ?_, fun hge => ?_⟩
    · obtain ⟨a, hx, hxm, _, ht⟩ := lt_get (l := from_) (i := i) (by omega)
      obtain ⟨b1, o, rfl, hnb, hcell⟩ := (hf.below hbx).get hx
      have c0 : wx.cell? ⟨b1, o + i, none⟩ = some (.int .i64 (a : Int)) := by simpa [encN] using hcell 0 _ rfl
      push_cast -dsimp [c0, Nat.mul_one]
      refine ⟨⟨by omega, by omega⟩, ?_⟩
      refine callK_of (step_c (h.below hbx) a (hle a hxm)) ?_
      rintro r wy ⟨hS, hby⟩
      have zy := hby.size
      have hbwy := hbx.trans (hby.mono zx)
      obtain ⟨oa, oc, rfl⟩ := hO.slice
      have hOy := hO.below hby
      have hlL : ((from_.take i).filter fun a => (stepM (ptsU us) back a).isNone).length ≤ i := by
        have := List.length_filter_le (fun a => (stepM (ptsU us) back a).isNone) (from_.take i)
        rw [List.length_take] at this
        omega
      rcases hS with ⟨j, p, hst, rfl⟩ | ⟨hst, rfl⟩
      · push_cast -dsimp
        refine ⟨fun hneg => by omega, fun _ => ⟨⟨by omega, by omega⟩, ⟨i + 1, _, rfl, rfl, by omega, ?_, hbwy⟩, by rw [h70]; simp only [intOf]; omega⟩⟩
        rw [ht, List.filter_append, List.filter_cons_of_neg (by simp [hst]), List.filter_nil, List.append_nil]
        exact hOy
      · push_cast -dsimp
        refine rowK elI_53 rfl rfl (by omega) ?_
        intro w5 hw5
        have z5 := hw5.size
        have hO5 := hOy.new hw5
        push_cast -dsimp
        refine appendK2 (base := w.heap.size) [a] (enc := encN) elI_53 hO5 (by rfl) (fun j u hu => by rw [Nat.zero_add]; exact hw5.cell hu) (by simp [encN, Value.oneCell']) (by simp only [List.length_cons, List.length_nil]; omega) (by omega) ?_
        intro v6 w6 hO6 hg6 hn6
        have hb6 : Below w.heap.size w w6 := (hbwy.trans (hw5.below.mono (by omega))).trans ((Kept.grown (X := fun j => w.heap.size ≤ j) hg6 (fun k hk => (hO5.block k hk).1)).below (by omega) (fun _ h => h))
        push_cast -dsimp
        refine ⟨⟨by omega, by omega⟩, ⟨i + 1, _, rfl, rfl, by omega, ?_, hb6⟩, by rw [h70]; simp only [intOf]; omega⟩
        rw [ht, List.filter_append, List.filter_cons_of_pos (by simp [hst]), List.filter_nil]
        exact hO6
    · rw [List.take_of_length_le (by omega)] at hO
      have hlL := List.length_filter_le (fun a => (stepM (ptsU us) back a).isNone) from_
      have hmem : ∀ j, j ∈ (from_.filter fun a => (stepM (ptsU us) back a).isNone) ↔ j ≤ us.length ∧ ∃ i ∈ from_, Rch (hasN nm) (ptsU us) back .edge i j := fun j => by
        rw [List.mem_filter, Option.isNone_iff_eq_none]
        simp only [Rch]
        constructor
        · rintro ⟨h1, h2⟩
          exact ⟨hle j h1, j, h1, rfl, h2⟩
        · rintro ⟨_, i, h1, rfl, h2⟩
          exact ⟨h1, h2⟩
      -- wx: the world; (hO.sl.weaken (fun _ h => h.elim)): Sl; hO.nilArg: Arg; (from_.filter fun a => (stepM (ptsU us) back a).isNone): the list; hbx: Below w wx; hmem: what it holds
      have hbF := hbx
      have zF := hbF.size
      refine callK_of (cloneN_c (from_.filter fun a => (stepM (ptsU us) back a).isNone) (by omega) (fun _ => False) _ (wx) (hO.sl.weaken (fun _ h => h.elim)) hO.nilArg) ?_
      rintro vc wc ⟨hoc, hbc⟩
      have zc := hbc.size
      push_cast -dsimp
      refine callK_of (sortN_c (from_.filter fun a => (stepM (ptsU us) back a).isNone) (by omega) _ vc wc hoc) ?_
      rintro _ wd ⟨⟨m1, hm1, hod⟩, hkd⟩
      have zd := hkd.size
      have hfl := fin_len hm1
      push_cast -dsimp
      refine callK_of (compactN_c m1 (by omega) _ vc wd hod) ?_
      rintro vr we ⟨⟨m2, hm2, hoe, howne⟩, hke⟩
      have hfi := fin_is hm1 hm2 hmem
      subst hfi
      push_cast -dsimp
      exact ⟨hoe.mono zF, hbF.trans ((hbc.mono zF).trans ((hkd.below (by omega) (fun i h => by have := hoc.block i h; omega)).trans (hke.below (by omega) (fun i h => by have := hoc.block i h; omega))))⟩
theorem all_any : AllC .any := by
  intro hok hpn X w rb mb us nm back h v hV fv from_ hf ha hr hle
  have hlen := h.len
  have hfl := rise_len hr hle
  simp only [PatV] at hV
  obtain ⟨b, rfl, hb, hB⟩ := hV
  obtain ⟨fa, fc, rfl, hfc⟩ := hf.shape
  have d0 : w.cell? ⟨b, 0, none⟩ = some (.int .i64 2) := hB.cell rfl
  refine fun_of_vc Tryz.func46 rfl (by kernel_rfl) [6] rfl ?_
  push_cast -dsimp (maxSteps := 4000000) [Tryz.ntmps46]
  push_cast -dsimp [d0]
  -- 2: the code; (fun _ => True): what points are right; .any: pattern
  refine wpL_loop [7, 9, 10, 11, 33, 34, 35, 36, 37, 38, 39, 40, 41, 42, 43, 44, 45, 46, 47, 48, 49, 50, 51, 52, 53, 54, 55, 56, 57, 58, 59, 60, 61, 62, 63, 64, 65] (fun z wx => ∃ (i : Nat) (ov : Value), z 33 = .int .i64 i ∧ z 7 = ov ∧ i ≤ from_.length ∧ Vc.Own w.heap.size 3 1 encN wx ov ((from_.take i).filterMap (stepF (fun _ => True) (ptsU us) back)) ∧ Below w.heap.size w wx) (fun z _ => from_.length - (intOf (z 33)).toNat) ?_ ?_
  · exact ⟨0, _, rfl, rfl, Nat.zero_le _, Vc.Own.nil (enc := encN) _ _ (fun _ => rfl) _, Below.refl _ _⟩
  · intro z wx hI
    obtain ⟨i, ov, h33, h7, hi, hO, hbx⟩ := hI
    have zx := hbx.size
    have hBx := hB.below hbx hB.lt
    have f0 : wx.cell? ⟨b, 0, none⟩ = some (.int .i64 2) := hBx.cell rfl
    push_cast -dsimp [h33, h7]
    refine ⟨fun hlt => ?_, fun hge => ?_⟩
    · obtain ⟨a, hx, hxm, _, ht⟩ := lt_get (l := from_) (i := i) (by omega)
      obtain ⟨b1, o, rfl, hnb, hcell⟩ := (hf.below hbx).get hx
      have c0 : wx.cell? ⟨b1, o + i, none⟩ = some (.int .i64 (a : Int)) := by simpa [encN] using hcell 0 _ rfl
      push_cast -dsimp [c0, Nat.mul_one]
      refine ⟨⟨by omega, by omega⟩, ?_⟩
      refine callK_of (step_c (h.below hbx) a (hle a hxm)) ?_
      rintro r wy ⟨hS, hby⟩
      have zy := hby.size
      have hbwy := hbx.trans (hby.mono zx)
      obtain ⟨oa, oc, rfl⟩ := hO.slice
      have hOy := hO.below hby
      have hBy := hBx.below hby hBx.lt
      have g0 : wy.cell? ⟨b, 0, none⟩ = some (.int .i64 2) := hBy.cell rfl
      have hlL : ((from_.take i).filterMap (stepF (fun _ => True) (ptsU us) back)).length ≤ i := by
        have := List.length_filterMap_le (stepF (fun _ => True) (ptsU us) back) (from_.take i)
        rw [List.length_take] at this
        omega
      have tk : (from_.take (i + 1)).filterMap (stepF (fun _ => True) (ptsU us) back) = (from_.take i).filterMap (stepF (fun _ => True) (ptsU us) back) ++ (stepF (fun _ => True) (ptsU us) back a).toList := by
        rw [ht, List.filterMap_append]
        exact congrArg _ (by cases hq : stepF (fun _ => True) (ptsU us) back a <;> simp [List.filterMap_cons, hq])
      rcases hS with ⟨j, p, hst, rfl⟩ | ⟨hst, rfl⟩
      · skip
        have hF : stepF (fun _ => True) (ptsU us) back a = some j := by unfold stepF; rw [hst]; simp
        push_cast -dsimp [g0]
        refine ⟨fun _ => ?_, fun hn => by omega⟩
        -- wy: the world; hOy: Vc.Own at it; hbwy: Below w wy
        refine rowK elI_53 rfl rfl (by omega) ?_
        intro w5 hw5
        have z5 := hw5.size
        have hb3 := hbwy
        have zb3 := hb3.size
        have hO5 := (hOy).new hw5
        push_cast -dsimp
        refine appendK2 (base := w.heap.size) [j] (enc := encN) elI_53 hO5 (by rfl) (fun j u hu => by rw [Nat.zero_add]; exact hw5.cell hu) (by simp [encN, Value.oneCell']) (by simp only [List.length_cons, List.length_nil]; omega) (by omega) ?_
        intro v6 w6 hO6 hg6 hn6
        have hb6 : Below w.heap.size w w6 := (hb3.trans (hw5.below.mono (by omega))).trans ((Kept.grown (X := fun j => w.heap.size ≤ j) hg6 (fun k hk => (hO5.block k hk).1)).below (by omega) (fun _ h => h))
        rw [hF] at tk
        push_cast -dsimp
        refine ⟨⟨by omega, by omega⟩, ⟨i + 1, _, rfl, rfl, by omega, ?_, hb6⟩, by rw [h33]; simp only [intOf]; omega⟩
        rw [tk]
        exact hO6
      · have hF : stepF (fun _ => True) (ptsU us) back a = none := by unfold stepF; rw [hst]
        rw [hF] at tk
        push_cast -dsimp
        refine ⟨⟨by omega, by omega⟩, ⟨i + 1, _, rfl, rfl, by omega, ?_, hbwy⟩, by rw [h33]; simp only [intOf]; omega⟩
        rw [tk]
        simpa using hOy
    · rw [List.take_of_length_le (by omega)] at hO
      have hlL := List.length_filterMap_le (stepF (fun _ => True) (ptsU us) back) from_
      have hmem : ∀ j, j ∈ from_.filterMap (stepF (fun _ => True) (ptsU us) back) ↔ j ≤ us.length ∧ ∃ i ∈ from_, Rch (hasN nm) (ptsU us) back .any i j := fun j => by
        rw [stepF_mem]
        simp only [Rch]
        constructor
        · rintro ⟨i, h1, p, h2, h3⟩
          exact ⟨by have := stepM_le h2 (by rw [ptsU_len]; exact hle i h1); rw [ptsU_len] at this; exact this, i, h1, by first | exact ⟨p, h2, h3⟩ | exact ⟨p, h2⟩⟩
        · rintro ⟨_, i, h1, hh⟩
          first
            | (obtain ⟨p, h2, h3⟩ := hh; exact ⟨i, h1, p, h2, h3⟩)
            | (obtain ⟨p, h2⟩ := hh; exact ⟨i, h1, p, h2, trivial⟩)
      -- wx: the world; (hO.sl.weaken (fun _ h => h.elim)): Sl; hO.nilArg: Arg; (from_.filterMap (stepF (fun _ => True) (ptsU us) back)): the list; hbx: Below w wx; hmem: what it holds
      have hbF := hbx
      have zF := hbF.size
      refine callK_of (cloneN_c (from_.filterMap (stepF (fun _ => True) (ptsU us) back)) (by omega) (fun _ => False) _ (wx) (hO.sl.weaken (fun _ h => h.elim)) hO.nilArg) ?_
      rintro vc wc ⟨hoc, hbc⟩
      have zc := hbc.size
      push_cast -dsimp
      refine callK_of (sortN_c (from_.filterMap (stepF (fun _ => True) (ptsU us) back)) (by omega) _ vc wc hoc) ?_
      rintro _ wd ⟨⟨m1, hm1, hod⟩, hkd⟩
      have zd := hkd.size
      have hfl := fin_len hm1
      push_cast -dsimp
      refine callK_of (compactN_c m1 (by omega) _ vc wd hod) ?_
      rintro vr we ⟨⟨m2, hm2, hoe, howne⟩, hke⟩
      have hfi := fin_is hm1 hm2 hmem
      subst hfi
      push_cast -dsimp
      exact ⟨hoe.mono zF, hbF.trans ((hbc.mono zF).trans ((hkd.below (by omega) (fun i h => by have := hoc.block i h; omega)).trans (hke.below (by omega) (fun i h => by have := hoc.block i h; omega))))⟩
theorem all_one (k : KindP) : AllC (.one k) := by
  intro hok hpn X w rb mb us nm back h v hV fv from_ hf ha hr hle
  have hlen := h.len
  have hfl := rise_len hr hle
  simp only [PatV] at hV
  simp only [PatOk] at hok
  obtain ⟨b, u, rfl, hb, hB, h1⟩ := hV
  obtain ⟨kb, rfl, hkb⟩ := h1.ptr
  obtain ⟨fa, fc, rfl, hfc⟩ := hf.shape
  have d0 : w.cell? ⟨b, 0, none⟩ = some (.int .i64 1) := hB.cell rfl
  refine fun_of_vc Tryz.func46 rfl (by kernel_rfl) [6] rfl ?_
  push_cast -dsimp (maxSteps := 4000000) [Tryz.ntmps46]
  push_cast -dsimp [d0]
  -- 1: the code; (hasN nm k): what points are right; (.one k): pattern
  refine wpL_loop [7, 9, 10, 11, 33, 34, 35, 36, 37, 38, 39, 40, 41, 42, 43, 44, 45, 46, 47, 48, 49, 50, 51, 52, 53, 54, 55, 56, 57, 58, 59, 60, 61, 62, 63, 64, 65] (fun z wx => ∃ (i : Nat) (ov : Value), z 33 = .int .i64 i ∧ z 7 = ov ∧ i ≤ from_.length ∧ Vc.Own w.heap.size 3 1 encN wx ov ((from_.take i).filterMap (stepF (hasN nm k) (ptsU us) back)) ∧ Below w.heap.size w wx) (fun z _ => from_.length - (intOf (z 33)).toNat) ?_ ?_
  · exact ⟨0, _, rfl, rfl, Nat.zero_le _, Vc.Own.nil (enc := encN) _ _ (fun _ => rfl) _, Below.refl _ _⟩
  · intro z wx hI
    obtain ⟨i, ov, h33, h7, hi, hO, hbx⟩ := hI
    have zx := hbx.size
    have hBx := hB.below hbx hB.lt
    have f0 : wx.cell? ⟨b, 0, none⟩ = some (.int .i64 1) := hBx.cell rfl
    push_cast -dsimp [h33, h7]
    refine ⟨fun hlt => ?_, fun hge => ?_⟩
    · obtain ⟨a, hx, hxm, _, ht⟩ := lt_get (l := from_) (i := i) (by omega)
      obtain ⟨b1, o, rfl, hnb, hcell⟩ := (hf.below hbx).get hx
      have c0 : wx.cell? ⟨b1, o + i, none⟩ = some (.int .i64 (a : Int)) := by simpa [encN] using hcell 0 _ rfl
      push_cast -dsimp [c0, Nat.mul_one]
      refine ⟨⟨by omega, by omega⟩, ?_⟩
      refine callK_of (step_c (h.below hbx) a (hle a hxm)) ?_
      rintro r wy ⟨hS, hby⟩
      have zy := hby.size
      have hbwy := hbx.trans (hby.mono zx)
      obtain ⟨oa, oc, rfl⟩ := hO.slice
      have hOy := hO.below hby
      have hBy := hBx.below hby hBx.lt
      have g0 : wy.cell? ⟨b, 0, none⟩ = some (.int .i64 1) := hBy.cell rfl
      have hlL : ((from_.take i).filterMap (stepF (hasN nm k) (ptsU us) back)).length ≤ i := by
        have := List.length_filterMap_le (stepF (hasN nm k) (ptsU us) back) (from_.take i)
        rw [List.length_take] at this
        omega
      have tk : (from_.take (i + 1)).filterMap (stepF (hasN nm k) (ptsU us) back) = (from_.take i).filterMap (stepF (hasN nm k) (ptsU us) back) ++ (stepF (hasN nm k) (ptsU us) back a).toList := by
        rw [ht, List.filterMap_append]
        exact congrArg _ (by cases hq : stepF (hasN nm k) (ptsU us) back a <;> simp [List.filterMap_cons, hq])
      rcases hS with ⟨j, p, hst, rfl⟩ | ⟨hst, rfl⟩
      · skip
        have g1 : wy.cell? ⟨b, 1, none⟩ = some (.pointer (some ⟨kb, 0, none⟩)) := hBy.cell rfl
        push_cast -dsimp [g0, g1]
        refine ⟨fun _ => ?_, fun hn => by omega⟩
        refine callK_of (has_c2 (h.below hbwy) k hok _ (h1.below hbwy) p) ?_
        rintro _ w4 ⟨⟨bb, rfl, hbb⟩, hb4⟩
        have z4 := hb4.size
        have hO4 := hOy.below hb4
        have hbw4 := hbwy.trans (hb4.mono (by omega))
        cases bb with
        | true =>
          have hF : stepF (hasN nm k) (ptsU us) back a = some j := by unfold stepF; rw [hst]; exact if_pos (hbb.1 rfl)
          push_cast -dsimp
          -- w4: the world; hO4: Vc.Own at it; hbw4: Below w w4
          refine rowK elI_53 rfl rfl (by omega) ?_
          intro w5 hw5
          have z5 := hw5.size
          have hb3 := hbw4
          have zb3 := hb3.size
          have hO5 := (hO4).new hw5
          push_cast -dsimp
          refine appendK2 (base := w.heap.size) [j] (enc := encN) elI_53 hO5 (by rfl) (fun j u hu => by rw [Nat.zero_add]; exact hw5.cell hu) (by simp [encN, Value.oneCell']) (by simp only [List.length_cons, List.length_nil]; omega) (by omega) ?_
          intro v6 w6 hO6 hg6 hn6
          have hb6 : Below w.heap.size w w6 := (hb3.trans (hw5.below.mono (by omega))).trans ((Kept.grown (X := fun j => w.heap.size ≤ j) hg6 (fun k hk => (hO5.block k hk).1)).below (by omega) (fun _ h => h))
          rw [hF] at tk
          push_cast -dsimp
          refine ⟨⟨by omega, by omega⟩, ⟨i + 1, _, rfl, rfl, by omega, ?_, hb6⟩, by rw [h33]; simp only [intOf]; omega⟩
          rw [tk]
          exact hO6
        | false =>
          have hF : stepF (hasN nm k) (ptsU us) back a = none := by unfold stepF; rw [hst]; exact if_neg (fun hh => by have := hbb.2 hh; cases this)
          rw [hF] at tk
          push_cast -dsimp
          refine ⟨⟨by omega, by omega⟩, ⟨i + 1, _, rfl, rfl, by omega, ?_, hbw4⟩, by rw [h33]; simp only [intOf]; omega⟩
          rw [tk]
          simpa using hO4
      · have hF : stepF (hasN nm k) (ptsU us) back a = none := by unfold stepF; rw [hst]
        rw [hF] at tk
        push_cast -dsimp
        refine ⟨⟨by omega, by omega⟩, ⟨i + 1, _, rfl, rfl, by omega, ?_, hbwy⟩, by rw [h33]; simp only [intOf]; omega⟩
        rw [tk]
        simpa using hOy
    · rw [List.take_of_length_le (by omega)] at hO
      have hlL := List.length_filterMap_le (stepF (hasN nm k) (ptsU us) back) from_
      have hmem : ∀ j, j ∈ from_.filterMap (stepF (hasN nm k) (ptsU us) back) ↔ j ≤ us.length ∧ ∃ i ∈ from_, Rch (hasN nm) (ptsU us) back (.one k) i j := fun j => by
        rw [stepF_mem]
        simp only [Rch]
        constructor
        · rintro ⟨i, h1, p, h2, h3⟩
          exact ⟨by have := stepM_le h2 (by rw [ptsU_len]; exact hle i h1); rw [ptsU_len] at this; exact this, i, h1, by first | exact ⟨p, h2, h3⟩ | exact ⟨p, h2⟩⟩
        · rintro ⟨_, i, h1, hh⟩
          first
            | (obtain ⟨p, h2, h3⟩ := hh; exact ⟨i, h1, p, h2, h3⟩)
            | (obtain ⟨p, h2⟩ := hh; exact ⟨i, h1, p, h2, trivial⟩)
      -- wx: the world; (hO.sl.weaken (fun _ h => h.elim)): Sl; hO.nilArg: Arg; (from_.filterMap (stepF (hasN nm k) (ptsU us) back)): the list; hbx: Below w wx; hmem: what it holds
      have hbF := hbx
      have zF := hbF.size
      refine callK_of (cloneN_c (from_.filterMap (stepF (hasN nm k) (ptsU us) back)) (by omega) (fun _ => False) _ (wx) (hO.sl.weaken (fun _ h => h.elim)) hO.nilArg) ?_
      rintro vc wc ⟨hoc, hbc⟩
      have zc := hbc.size
      push_cast -dsimp
      refine callK_of (sortN_c (from_.filterMap (stepF (hasN nm k) (ptsU us) back)) (by omega) _ vc wc hoc) ?_
      rintro _ wd ⟨⟨m1, hm1, hod⟩, hkd⟩
      have zd := hkd.size
      have hfl := fin_len hm1
      push_cast -dsimp
      refine callK_of (compactN_c m1 (by omega) _ vc wd hod) ?_
      rintro vr we ⟨⟨m2, hm2, hoe, howne⟩, hke⟩
      have hfi := fin_is hm1 hm2 hmem
      subst hfi
      push_cast -dsimp
      exact ⟨hoe.mono zF, hbF.trans ((hbc.mono zF).trans ((hkd.below (by omega) (fun i h => by have := hoc.block i h; omega)).trans (hke.below (by omega) (fun i h => by have := hoc.block i h; omega))))⟩
end Go.Proofs.YtledlfbbebodgaaGreatDoor
end
section
namespace Go.Proofs.YtledlfbbebodgaaGreatDoor
open Go.Vc Go.Proofs Go.RowKit Cae
attribute [local irreducible] wpL callK valK unitK runK Fun Sl Vc.Own vc vcOps opK pureK
theorem all_cat (l : List PatP) (hall : ∀ x ∈ l, AllC x) : AllC (.cat l) := by
  intro hok hpn X w rb mb us nm back h v hV fv from_ hf ha hr hle
  have hlen := h.len
  have hfl := rise_len hr hle
  have hpc := wd_in_cat (l := l)
  simp only [PatV] at hV
  simp only [PatOk] at hok
  obtain ⟨b, sv, vs, rfl, hb, hB, hs, hV⟩ := hV
  have hvl := hV.len
  obtain ⟨sa, sc, rfl, hsc⟩ := hs.shape
  rw [hvl] at hB hs hsc
  obtain ⟨fa, fc, rfl, hfc⟩ := hf.shape
  obtain ⟨lv, hBr, hlv⟩ := h.st
  have d0 : w.cell? ⟨b, 0, none⟩ = some (.int .i64 4) := hB.cell rfl
  have d2 : w.cell? ⟨b, 2, none⟩ = some (.slice sa l.length sc) := hB.cell rfl
  refine fun_of_vc Tryz.func46 rfl (by kernel_rfl) [6] rfl ?_
  push_cast -dsimp (maxSteps := 4000000) [Tryz.ntmps46]
  push_cast -dsimp [d0, d2]
  refine wpL_loop [7, 16, 17, 95, 96, 97, 98, 99, 100, 101, 102, 103, 104, 105, 106, 107, 108, 109, 110, 111, 112, 113, 114, 115, 116, 117, 118, 119, 120, 121] (fun z wx => ∃ (n : Nat) (ov : Value) (L : List Nat), z 95 = .int .i64 n ∧ z 7 = ov ∧ n ≤ l.length ∧ Sl (fun _ => False) 1 (En encN) wx ov L ∧ Arg ov ∧ L.Pairwise (· < ·) ∧ (∀ j, j ∈ L ↔ j ≤ us.length ∧ ∃ i ∈ from_, catN (hasN nm) (ptsU us) back l n i j) ∧ Below w.heap.size w wx) (fun z _ => l.length - (intOf (z 95)).toNat) ?_ ?_
  · refine ⟨0, _, from_, rfl, rfl, Nat.zero_le _, hf, ha, hr, fun j => ?_, Below.refl _ _⟩
    constructor
    · intro hj; exact ⟨hle j hj, j, hj, catN_zero.2 rfl⟩
    · rintro ⟨_, i, hi, h2⟩
      rw [← catN_zero.1 h2]; exact hi
  · intro z wx hI
    obtain ⟨n, ov, L, h95, h7, hn, hL, haL, hrL, hmL, hbx⟩ := hI
    have zx := hbx.size
    have hBx := hB.below hbx hB.lt
    have hBrx := hBr.below hbx hBr.lt
    have e2 : wx.cell? ⟨b, 2, none⟩ = some (.slice sa l.length sc) := hBx.cell rfl
    have eb : wx.cell? ⟨rb, 2, none⟩ = some (.bool back) := hBrx.cell rfl
    have hll := hpc.2.1
    push_cast -dsimp [h95, h7]
    refine ⟨fun hlt => ?_, fun hge => ?_⟩
    · cases back with
      | true =>
        have tn : ((l.length : Int) - 1 - n).toNat = l.length - 1 - n := by omega
        have hkx : ∃ x, l[l.length - 1 - n]? = some x := ⟨l[l.length - 1 - n]'(by omega), List.getElem?_eq_getElem (by omega)⟩
        obtain ⟨x, hx⟩ := hkx
        obtain ⟨u, hu, hVx⟩ := PatsV.nth hV hx
        obtain ⟨b1, o, rfl, hnb, hcell⟩ := (hs.below hbx).get hu
        have c0 : wx.cell? ⟨b1, o + (l.length - 1 - n), none⟩ = some (.pointer (some ⟨u, 0, none⟩)) := by simpa [encP, ptrP] using hcell 0 _ rfl
        push_cast -dsimp [eb, e2, tn, c0, Nat.mul_one]
        refine ⟨⟨by omega, by omega⟩, ⟨by omega, by omega⟩, ⟨by omega, by omega⟩, ?_⟩
        have hxm := List.mem_of_getElem? hx
        refine callK_of (hall x hxm (patsOk_mem hok hxm) (by have := hpc.2.2 x hxm; omega) X wx rb mb us nm _ (h.below hbx) _ (PatV.below hVx hbx) ov L hL haL hrL (fun j hj => ((hmL j).1 hj).1)) ?_
        rintro r wy ⟨hO, hby⟩
        have zy := hby.size
        have haY : Arg r := hO.nilArg
        push_cast -dsimp
        refine ⟨⟨by omega, by omega⟩, ⟨n + 1, _, _, rfl, rfl, by omega, hO.sl.weaken (fun _ h => h.elim), haY, imgM_rise _ _ _, fun j => ?_, hbx.trans (hby.mono zx)⟩, by rw [h95]; simp only [intOf]; omega⟩
        rw [imgM_mem]
        refine and_congr Iff.rfl ?_
        constructor
        · rintro ⟨m, hm, h2⟩
          obtain ⟨_, i, hi, h3⟩ := (hmL m).1 hm
          exact ⟨i, hi, (catN_succ (by omega) hx).2 ⟨m, h3, h2⟩⟩
        · rintro ⟨i, hi, h3⟩
          obtain ⟨m, h4, h5⟩ := (catN_succ (by omega) hx).1 h3
          exact ⟨m, (hmL m).2 ⟨by have := catN_le (by rw [ptsU_len]; exact hle i hi) h4; rw [ptsU_len] at this; exact this, i, hi, h4⟩, h5⟩
      | false =>
        have hkx : ∃ x, l[n]? = some x := ⟨l[n]'(by omega), List.getElem?_eq_getElem (by omega)⟩
        obtain ⟨x, hx⟩ := hkx
        obtain ⟨u, hu, hVx⟩ := PatsV.nth hV hx
        obtain ⟨b1, o, rfl, hnb, hcell⟩ := (hs.below hbx).get hu
        have c0 : wx.cell? ⟨b1, o + n, none⟩ = some (.pointer (some ⟨u, 0, none⟩)) := by simpa [encP, ptrP] using hcell 0 _ rfl
        push_cast -dsimp [eb, e2, c0, Nat.mul_one]
        refine ⟨⟨by omega, by omega⟩, ?_⟩
        have hxm := List.mem_of_getElem? hx
        refine callK_of (hall x hxm (patsOk_mem hok hxm) (by have := hpc.2.2 x hxm; omega) X wx rb mb us nm _ (h.below hbx) _ (PatV.below hVx hbx) ov L hL haL hrL (fun j hj => ((hmL j).1 hj).1)) ?_
        rintro r wy ⟨hO, hby⟩
        have zy := hby.size
        have haY : Arg r := hO.nilArg
        push_cast -dsimp
        refine ⟨⟨by omega, by omega⟩, ⟨n + 1, _, _, rfl, rfl, by omega, hO.sl.weaken (fun _ h => h.elim), haY, imgM_rise _ _ _, fun j => ?_, hbx.trans (hby.mono zx)⟩, by rw [h95]; simp only [intOf]; omega⟩
        rw [imgM_mem]
        refine and_congr Iff.rfl ?_
        constructor
        · rintro ⟨m, hm, h2⟩
          obtain ⟨_, i, hi, h3⟩ := (hmL m).1 hm
          exact ⟨i, hi, (catN_succ (by omega) hx).2 ⟨m, h3, h2⟩⟩
        · rintro ⟨i, hi, h3⟩
          obtain ⟨m, h4, h5⟩ := (catN_succ (by omega) hx).1 h3
          exact ⟨m, (hmL m).2 ⟨by have := catN_le (by rw [ptsU_len]; exact hle i hi) h4; rw [ptsU_len] at this; exact this, i, hi, h4⟩, h5⟩
    · have hnl : n = l.length := by omega
      subst hnl
      have hlL := rise_len hrL (fun j hj => ((hmL j).1 hj).1)
      have hmem : ∀ j, j ∈ L ↔ j ≤ us.length ∧ ∃ i ∈ from_, Rch (hasN nm) (ptsU us) back (.cat l) i j := fun j => by
        rw [hmL j]
        refine and_congr Iff.rfl (exists_congr fun i => and_congr Iff.rfl catN_all)
      -- wx: the world; hL: Sl; haL: Arg; L: the list; hbx: Below w wx; hmem: what it holds
      have hbF := hbx
      have zF := hbF.size
      refine callK_of (cloneN_c L (by omega) (fun _ => False) _ (wx) hL haL) ?_
      rintro vc wc ⟨hoc, hbc⟩
      have zc := hbc.size
      push_cast -dsimp
      refine callK_of (sortN_c L (by omega) _ vc wc hoc) ?_
      rintro _ wd ⟨⟨m1, hm1, hod⟩, hkd⟩
      have zd := hkd.size
      have hfl := fin_len hm1
      push_cast -dsimp
      refine callK_of (compactN_c m1 (by omega) _ vc wd hod) ?_
      rintro vr we ⟨⟨m2, hm2, hoe, howne⟩, hke⟩
      have hfi := fin_is hm1 hm2 hmem
      subst hfi
      push_cast -dsimp
      exact ⟨hoe.mono zF, hbF.trans ((hbc.mono zF).trans ((hkd.below (by omega) (fun i h => by have := hoc.block i h; omega)).trans (hke.below (by omega) (fun i h => by have := hoc.block i h; omega))))⟩
theorem all_alt (l : List PatP) (hall : ∀ x ∈ l, AllC x) : AllC (.alt l) := by
  intro hok hpn X w rb mb us nm back h v hV fv from_ hf ha hr hle
  have hlen := h.len
  have hfl := rise_len hr hle
  have hpc := wd_in_alt (l := l)
  have hll := hpc.2.1
  simp only [PatV] at hV
  simp only [PatOk] at hok
  obtain ⟨b, sv, vs, rfl, hb, hB, hs, hV⟩ := hV
  have hvl := hV.len
  obtain ⟨sa, sc, rfl, hsc⟩ := hs.shape
  rw [hvl] at hB hs hsc
  obtain ⟨fa, fc, rfl, hfc⟩ := hf.shape
  have d0 : w.cell? ⟨b, 0, none⟩ = some (.int .i64 5) := hB.cell rfl
  have d2 : w.cell? ⟨b, 2, none⟩ = some (.slice sa l.length sc) := hB.cell rfl
  refine fun_of_vc Tryz.func46 rfl (by kernel_rfl) [6] rfl ?_
  push_cast -dsimp (maxSteps := 4000000) [Tryz.ntmps46]
  push_cast -dsimp [d0, d2]
  refine wpL_loop [7, 19, 129, 130, 131, 132, 133, 134, 135, 136, 137, 138, 139] (fun z wx => ∃ (n : Nat) (ov : Value) (L : List Nat), z 129 = .int .i64 n ∧ z 7 = ov ∧ n ≤ l.length ∧ Vc.Own w.heap.size 3 1 encN wx ov L ∧ L.length ≤ n * (us.length + 1) ∧ (∀ j, j ∈ L ↔ j ≤ us.length ∧ ∃ i ∈ from_, ∃ y ∈ l.take n, Rch (hasN nm) (ptsU us) back y i j) ∧ Below w.heap.size w wx) (fun z _ => l.length - (intOf (z 129)).toNat) ?_ ?_
  · exact ⟨0, _, [], rfl, rfl, Nat.zero_le _, Vc.Own.nil (enc := encN) _ _ (fun _ => rfl) _, by simp, fun j => by simp, Below.refl _ _⟩
  · intro z wx hI
    obtain ⟨n, ov, L, h129, h7, hn, hO, hlL, hmL, hbx⟩ := hI
    have zx := hbx.size
    have hnl : n * (us.length + 1) ≤ l.length * (us.length + 1) := Nat.mul_le_mul_right _ hn
    have hbig : l.length * (us.length + 1) ≤ 100000 * 1001 := Nat.mul_le_mul (by omega) (by omega)
    push_cast -dsimp [h129, h7]
    refine ⟨fun hlt => ?_, fun hge => ?_⟩
    · obtain ⟨x, hx, hxm, _, ht⟩ := lt_get (l := l) (i := n) (by omega)
      obtain ⟨u, hu, hVx⟩ := PatsV.nth hV hx
      obtain ⟨b1, o, rfl, hnb, hcell⟩ := (hs.below hbx).get hu
      have c0 : wx.cell? ⟨b1, o + n, none⟩ = some (.pointer (some ⟨u, 0, none⟩)) := by simpa [encP, ptrP] using hcell 0 _ rfl
      push_cast -dsimp [c0, Nat.mul_one]
      refine ⟨⟨by omega, by omega⟩, ?_⟩
      refine callK_of (hall x hxm (patsOk_mem hok hxm) (by have := hpc.2.2 x hxm; omega) X wx rb mb us nm _ (h.below hbx) _ (PatV.below hVx hbx) _ from_ (hf.below hbx) ha hr hle) ?_
      rintro r wy ⟨hO2, hby⟩
      have zy := hby.size
      have haY : Arg r := hO2.nilArg
      have hOy := hO.below hby
      have hil := rise_len (imgM_rise us.length (Rch (hasN nm) (ptsU us) back x) from_) (fun j hj => (imgM_mem.1 hj).1)
      have hn1 : (n + 1) * (us.length + 1) = n * (us.length + 1) + (us.length + 1) := by rw [Nat.add_mul]; omega
      push_cast -dsimp
      refine appendAny (base := w.heap.size) (enc := encN) (ys := imgM us.length (Rch (hasN nm) (ptsU us) back x) from_) elI_53 hOy (hO2.sl) haY (by simp [encN, Value.oneCell']) (by omega) (by omega) ?_
      intro v8 w8 hO8 hg8 hb8
      push_cast -dsimp
      refine ⟨⟨by omega, by omega⟩, ⟨n + 1, _, _, rfl, rfl, by omega, hO8, by rw [List.length_append]; omega, fun j => ?_, (hbx.trans (hby.mono zx)).trans (hb8.mono (by omega))⟩, by rw [h129]; simp only [intOf]; omega⟩
      rw [List.mem_append, hmL j, imgM_mem, ht]
      constructor
      · rintro (⟨h1, i, hi, y, hy, h2⟩ | ⟨h1, i, hi, h2⟩)
        · exact ⟨h1, i, hi, y, List.mem_append_left _ hy, h2⟩
        · exact ⟨h1, i, hi, x, by simp, h2⟩
      · rintro ⟨h1, i, hi, y, hy, h2⟩
        rw [List.mem_append, List.mem_singleton] at hy
        rcases hy with hy | rfl
        · exact .inl ⟨h1, i, hi, y, hy, h2⟩
        · exact .inr ⟨h1, i, hi, h2⟩
    · have hnl : n = l.length := by omega
      subst hnl
      rw [List.take_length] at hmL
      have hmem : ∀ j, j ∈ L ↔ j ≤ us.length ∧ ∃ i ∈ from_, Rch (hasN nm) (ptsU us) back (.alt l) i j := fun j => by
        rw [hmL j]
        refine and_congr Iff.rfl (exists_congr fun i => and_congr Iff.rfl ?_)
        simp only [Rch]
        rw [rchA_mem]
      -- wx: the world; (hO.sl.weaken (fun _ h => h.elim)): Sl; hO.nilArg: Arg; L: the list; hbx: Below w wx; hmem: what it holds
      have hbF := hbx
      have zF := hbF.size
      refine callK_of (cloneN_c L (by omega) (fun _ => False) _ (wx) (hO.sl.weaken (fun _ h => h.elim)) hO.nilArg) ?_
      rintro vc wc ⟨hoc, hbc⟩
      have zc := hbc.size
      push_cast -dsimp
      refine callK_of (sortN_c L (by omega) _ vc wc hoc) ?_
      rintro _ wd ⟨⟨m1, hm1, hod⟩, hkd⟩
      have zd := hkd.size
      have hfl := fin_len hm1
      push_cast -dsimp
      refine callK_of (compactN_c m1 (by omega) _ vc wd hod) ?_
      rintro vr we ⟨⟨m2, hm2, hoe, howne⟩, hke⟩
      have hfi := fin_is hm1 hm2 hmem
      subst hfi
      push_cast -dsimp
      exact ⟨hoe.mono zF, hbF.trans ((hbc.mono zF).trans ((hkd.below (by omega) (fun i h => by have := hoc.block i h; omega)).trans (hke.below (by omega) (fun i h => by have := hoc.block i h; omega))))⟩
end Go.Proofs.YtledlfbbebodgaaGreatDoor
end
section
namespace Go.Vc
open Go.RowKit
section
variable {P:Program} {t:Fr} {w:World} {K:VK} {Q:EP}
theorem appendAny2 {α:Type} {bt ty e:TypeId} {k bytes base:Nat} {enc:α→List Value} {X:Nat→Prop} {v x:Value} {l ys:List α} {p} (hE:elI P bt=some (e,k,bytes)) (hown:Vc.Own base e k enc w v l) (hx:Sl X k (En enc) w x ys)
  (hnil:∀n c,x=.slice none n c→n=0∧c=0) (h1:∀x,∀u∈enc x,u.oneCell'=true)
  (hm:(l.length+ys.length)*bytes≤140737488355328) (hbase:base≤w.heap.size)
  (kk:∀v' w',Vc.Own base e k enc w' v' (l++ys)→w.grownBy w' v.ownBlock→Below base w w'→(∀g,v'.ownBlock=some g→v.ownBlock=some g∨w.heap.size≤g)→K v' w'):valK P (Builtin.append_ #[bt,bt] ty [v,x].toArray) t w K Q p:=by
 obtain⟨hu,i,z,hi,hz,rfl,rfl,hzs,hk,hby⟩:=elI_spec hE
 have hlen:∀(ys:List α),(ys.flatMap enc).length=ys.length*i.size:=by
  intro ys
  induction ys with
  | nil=>simp
  | cons y ys ih=>simp[List.flatMap_cons,hown.2,ih,Nat.add_mul];omega
 have hle:l.length+ys.length≤140737488355328:=Nat.le_trans (Nat.le_mul_of_pos_right _ hby) hm
 unfold Sl at hx
 obtain⟨a,c,rfl,hc,hel⟩:=hx
 cases a with
 | none =>
  obtain⟨h0,rfl⟩:=hnil _ _ rfl
  have:ys=[]:=List.eq_nil_of_length_eq_zero h0
  subst this
  have hr:=run_append_owned_none (P:=P) w base bt ty e i i.size hu hi v l.length (l.flatMap enc) hown.1
  refine valK_of (w':=w) (v:=v) hr (kk v w (by rw[List.append_nil];exact hown) ⟨rfl,rfl,rfl,Nat.le_refl _,fun _ _ _=>rfl⟩ (Below.refl _ _) (fun g hg=>.inl hg))
 | some ad =>
  have hy:∀j u,(ys.flatMap enc)[j]?=some u→w.cell? (ad.add j)=some u:=by
   intro j u hj
   have hjl:=(List.getElem?_eq_some_iff.1 hj).1
   rw[hlen]at hjl
   have hq:j / i.size<ys.length:=Nat.div_lt_of_lt_mul (by rw[Nat.mul_comm];exact hjl)
   have hy0:ys[j / i.size]?=some ys[j / i.size]:=List.getElem?_eq_getElem hq
   obtain⟨b,o,cs,hb,_,hcs,hcell,rfl⟩:=hel _ _ hy0
   cases hb
   have hr:j % i.size<(enc ys[j / i.size]).length:=by rw[hcs];exact Nat.mod_lt _ hk
   have hg:=flatMap_get hown.2 ys (j / i.size) (j % i.size) _ _ hy0 (List.getElem?_eq_getElem hr)
   have ej:j / i.size*i.size+j % i.size=j:=by rw[Nat.mul_comm];exact Nat.div_add_mod j i.size
   rw[ej,hj]at hg
   have:=hcell _ _ (List.getElem?_eq_getElem hr)
   rw[add_lit]
   rw[Nat.add_assoc,ej]at this
   rw[this,hg]
  obtain⟨v',w',hr,ho,hg,_⟩:=run_append_own (P:=P) w base bt ty e i z i.size i.bytes hu hi hz rfl rfl hzs hk v l.length (l.flatMap enc) hown.1 ad ys.length c (ys.flatMap enc) (hlen ys)
   hy (fun u hu'=>by obtain⟨x,_,hx⟩:=List.mem_flatMap.1 hu';exact h1 x u hx) (by simp only[maxLen];omega) hm hbase
  have h1':∀u∈ys.flatMap enc,u.oneCell'=true:=fun u hu'=>by obtain⟨x,_,hx⟩:=List.mem_flatMap.1 hu';exact h1 x u hx
  refine valK_of hr (kk v' w' ⟨by simpa[List.flatMap_append] using ho,hown.2⟩ hg ((Below.refl _ _).grown hg hbase fun k hk=>(hown.1.lt k hk).1) ?_)
  intro g' hg'
  rcases hown.1.2 with ⟨rfl,h0⟩|⟨g,cap,cur,rfl,hbg,hgg,hnc,hcm,hcs,htake⟩
  ·have hl:l=[]:=List.eq_nil_of_length_eq_zero h0
   subst hl
   have hown':w.ownsRow w.heap.size e i.size (.slice none 0 0) 0 []:=World.ownsRow_nil _ _ _ _
   obtain⟨v2,w2,hr2,ho2,_,_⟩:=run_append_own (P:=P) w w.heap.size bt ty e i z i.size i.bytes hu hi hz rfl rfl hzs hk _ 0 [] hown' ad ys.length c (ys.flatMap enc) (hlen ys)
    hy h1' (by simp only[maxLen];omega) (by simpa using hm) (Nat.le_refl _)
   have:=hr.symm.trans hr2
   cases this
   exact .inr (ho2.lt g' hg').1
  ·by_cases hroom:l.length+ys.length≤cap
   ·obtain⟨w2,hr2,_⟩:=run_append_fits (P:=P) (w:=w) base bt ty e i i.size hu hi rfl g l.length cap (l.flatMap enc) hown.1 ad ys.length c (ys.flatMap enc) (hlen ys) hy h1' hroom
    have:=hr.symm.trans hr2
    cases this
    exact .inl hg'
   ·have hr2:=run_append_grow (P:=P) w bt ty e i z hu hi hz ⟨g,0,none⟩ l.length cap (l.flatMap enc) hown.1.1 (hown.1.cells (g:=g) rfl) ad ys.length c (ys.flatMap enc) (hlen ys) hy (by omega) (by omega) (growslice_fits (by omega) hm)
    have:=hr.symm.trans hr2
    cases this
    simp only[Value.ownBlock,Option.some.injEq]at hg'
    exact .inr (by omega)
end
end Go.Vc
end
section
namespace Cae
section
variable {has:KindP→Int→Prop} {pts:List Int} {back:Bool}
theorem stM_le {x:PatP}{l:List Nat}{n j:Nat}(hl:∀i∈l,i≤pts.length)(h:stM (Rch has pts back x) l n j):j≤pts.length:=by
 obtain⟨i,hi,h⟩:=h;exact iterM_le (fun a b ha hr=>rch_le x ha hr) (hl i hi) h
theorem many_fin {x:PatP}{lo k N:Nat}{hi:Int}{from_ M:List Nat}(hM:∀j,j∈M↔j≤N∧∃s,s≤k∧stM (Rch has pts back x) from_ (lo+s) j)(hk:hi<0∨((lo+k:Nat):Int)≤hi)
  (hend:∀t j,(hi<0∨((lo+t:Nat):Int)≤hi)→stM (Rch has pts back x) from_ (lo+t) j→∃s,s≤k∧stM (Rch has pts back x) from_ (lo+s) j):∀j,j∈M↔j≤N∧∃i∈from_,Rch has pts back (.many x (lo:Int) hi) i j:=fun j=>by
 rw[hM j,many_iff];refine and_congr Iff.rfl ?_;constructor
 ·rintro⟨s,hs,h⟩;exact⟨s,by rcases hk with hk|hk<;>omega,h⟩
 ·rintro⟨t,ht,h⟩;exact hend t j ht h
end
theorem rise_sub {l m:List Nat}(hl:l.Pairwise (·<·))(hm:m.Pairwise (·<·))(h:∀x∈l,x∈m):l.length≤m.length:=by
 have e:l=m.filter fun x=>decide (x∈l):=rise_eq hl (List.Pairwise.filter _ hm) fun x=>by
  rw[List.mem_filter,decide_eq_true_iff];exact⟨fun hx=>⟨h x hx,hx⟩,fun hx=>hx.2⟩
 rw[e];exact List.length_filter_le _ _
end Cae
namespace Go.Proofs.YtledlfbbebodgaaGreatDoor
open Go.Vc Go.Proofs Go.RowKit Cae
attribute [local irreducible] wpL callK valK unitK runK Fun Sl Vc.Own vc vcOps opK pureK
theorem img_step {N:Nat}{R:Nat→Nat→Prop}{from_ L:List Nat}{t:Nat}(h:∀j,j∈L↔j≤N∧stM R from_ t j)(hle:∀j,stM R from_ t j→j≤N):∀j,j∈imgM N R L↔j≤N∧stM R from_ (t+1) j:=fun j=>by
 rw[imgM_mem,stM_succ];refine and_congr Iff.rfl ?_;constructor
 ·rintro⟨m,hm,h2⟩;exact⟨m,((h m).1 hm).2,h2⟩
 ·rintro⟨m,hm,h2⟩;exact⟨m,(h m).2 ⟨hle m hm,hm⟩,h2⟩
def lenV:Value→Nat
 | .slice _ n _=>n
 | _=>0
theorem merge_is {L m1 m2:List Nat}(h1:intsN m1=((intsN L).mergeSort fun x y=>decide (x≤y)))(h2:intsN m2=Lib.compact (intsN m1)):m2.Pairwise (·<·)∧∀x,x∈m2↔x∈L:=by
 obtain⟨m,e,hp,hmem⟩:=sorted_compact L;rw[←h1,←h2]at e;have e:=intsN_inj e;subst e;exact⟨hp,hmem⟩
theorem many_c (x : PatP) (lo : Nat) (hi : Int) (hx : AllC x) (hok : PatOk x) (hpn : wd x ≤ 100000) (hlo : lo < 100) (hhi : hi < 100) (hlh : hi < 0 ∨ (lo : Int) ≤ hi) (X : Nat → Prop) (w : World) (rb mb : Nat) (us : List U) (nm : NamesP) (back : Bool) (h : Mr X w rb mb us nm back) (v : Value) (hV : PatV X w v (.many x lo hi))
    (fv : Value) (from_ : List Nat) (hf : Sl (fun _ => False) 1 (En encN) w fv from_) (ha : Arg fv) (hr : from_.Pairwise (· < ·)) (hle : ∀ i ∈ from_, i ≤ us.length) :
    Fun Tryz.prog 72 [.pointer (some ⟨rb, 0, none⟩), v, fv] w fun r w' => (∃ M, Vc.Own w.heap.size 3 1 encN w' r M ∧ M.length ≤ 1001 ∧ ∀ j, j ∈ M ↔ j ≤ us.length ∧ ∃ i ∈ from_, Rch (hasN nm) (ptsU us) back (.many x lo hi) i j) ∧ Below w.heap.size w w' := by
  have hlen := h.len
  have hfl := rise_len hr hle
  have hpl := ptsU_len us
  have hstl : ∀ t j, stM (Rch (hasN nm) (ptsU us) back x) from_ t j → j ≤ us.length := fun t j hj => by have := stM_le (by rw [hpl]; exact hle) hj; rw [hpl] at this; exact this
  simp only [PatV] at hV
  obtain ⟨b, sv, u, rfl, hb, hB, hs, hV⟩ := hV
  obtain ⟨sa, sc, rfl, hsc⟩ := hs.shape
  obtain ⟨b1, o, rfl, hnb, hcell⟩ := hs.get (i := 0) (x := u) rfl
  obtain ⟨fa, fc, rfl, hfc⟩ := hf.shape
  have d2 : ∀ w', Below w.heap.size w w' → w'.cell? ⟨b, 2, none⟩ = some (.slice (some ⟨b1, o, none⟩) 1 sc) := fun w' hb => (hB.below hb hB.lt).cell rfl
  have d3 : ∀ w', Below w.heap.size w w' → w'.cell? ⟨b, 3, none⟩ = some (.int .i64 lo) := fun w' hb => (hB.below hb hB.lt).cell rfl
  have d4 : ∀ w', Below w.heap.size w w' → w'.cell? ⟨b, 4, none⟩ = some (.int .i64 hi) := fun w' hb => (hB.below hb hB.lt).cell rfl
  have cx : ∀ w', Below w.heap.size w w' → w'.cell? ⟨b1, o, none⟩ = some (.pointer (some ⟨u, 0, none⟩)) := fun w' hb => (hb.cell (World.block_lt_of_cell? w _ (hcell 0 _ rfl))).trans (by simpa [encP, ptrP] using hcell 0 _ rfl)
  have hrf := Below.refl w.heap.size w
  refine fun_of_vc Tryz.func72 rfl (by kernel_rfl) [6] rfl ?_
  simp -dsimp (maxSteps := 4000000) only [push_cast, fr0, Tryz.ntmps72, List.length_cons, List.length_nil, Nat.reduceAdd, Nat.reduceSub, Nat.reduceBEq, List.replicate_succ, List.replicate_zero]
  simp -dsimp only [push_cast, Nat.reduceAdd, Nat.reduceLeDiff, Nat.reduceBEq, Int.reduceNe, Int.reduceEq, Int.reduceLT, Int.reduceLE, d3 _ hrf]
  refine wpL_loop [7, 8, 17, 18, 19, 20, 21, 22, 23, 24, 25, 26, 27, 28, 29, 30, 31, 32] (fun z wx => ∃ (t : Nat) (ov : Value) (L : List Nat), z 17 = .int .i64 t ∧ z 7 = ov ∧ t ≤ lo ∧ Sl (fun _ => False) 1 (En encN) wx ov L ∧ Arg ov ∧ L.Pairwise (· < ·) ∧ (∀ j, j ∈ L ↔ j ≤ us.length ∧ stM (Rch (hasN nm) (ptsU us) back x) from_ t j) ∧ Below w.heap.size w wx) (fun z _ => lo - (intOf (z 17)).toNat) ?_ ?_
  · refine ⟨0, _, from_, rfl, rfl, Nat.zero_le _, hf, ha, hr, fun j => ?_, Below.refl _ _⟩
    constructor
    · intro hj; exact ⟨hle j hj, j, hj, rfl⟩
    · rintro ⟨_, i, hi, h2⟩
      have h2 : i = j := h2
      rw [← h2]; exact hi
  · intro z wx hI
    obtain ⟨t, ov, L, h17, h7, ht, hL, haL, hrL, hmL, hbx⟩ := hI
    have zx := hbx.size
    simp -dsimp only [push_cast, Nat.reduceAdd, Nat.reduceLeDiff, Nat.reduceBEq, Int.reduceNe, Int.reduceEq, Int.reduceLT, Int.reduceLE, h17, h7, d2 _ hbx, cx _ hbx]
    refine ⟨fun hlt => ?_, fun hge => ?_⟩
    · refine ⟨by omega, ?_⟩
      refine callK_of (hx hok hpn X wx rb mb us nm _ (h.below hbx) _ (PatV.below hV hbx) ov L hL haL hrL (fun j hj => ((hmL j).1 hj).1)) ?_
      rintro r wy ⟨hO, hby⟩
      have zy := hby.size
      have hbwy := hbx.trans (hby.mono zx)
      have hil := rise_len (imgM_rise us.length (Rch (hasN nm) (ptsU us) back x) L) (fun j hj => (imgM_mem.1 hj).1)
      have hmY := img_step hmL (hstl t)
      simp -dsimp only [push_cast, Nat.reduceAdd, Nat.reduceLeDiff, Nat.reduceBEq, Int.reduceNe, Int.reduceEq, Int.reduceLT, Int.reduceLE]
      refine callK_of (equalN_c (imgM us.length (Rch (hasN nm) (ptsU us) back x) L) L (by omega) _ _ r ov wy hO.sl (hL.below hby)) ?_
      rintro _ w4 ⟨rfl, hb4⟩
      by_cases heq : imgM us.length (Rch (hasN nm) (ptsU us) back x) L = L
      · rw [decide_eq_true heq]
        have hsame : ∀ j, stM (Rch (hasN nm) (ptsU us) back x) from_ (t + 1) j ↔ stM (Rch (hasN nm) (ptsU us) back x) from_ t j := fun j => by
          have h1 := hmY j
          rw [heq, hmL j] at h1
          constructor
          · intro hh; exact (h1.2 ⟨hstl _ j hh, hh⟩).2
          · intro hh; exact (h1.1 ⟨hstl _ j hh, hh⟩).2
        have hmR : ∀ j, j ∈ imgM us.length (Rch (hasN nm) (ptsU us) back x) L ↔ j ≤ us.length ∧ stM (Rch (hasN nm) (ptsU us) back x) from_ lo j := fun j => by
          rw [hmY j, hsame j]
          have := stM_fix hsame (lo - t) j
          rw [show t + (lo - t) = lo by omega] at this
          rw [this]
        have hbw4 := hbwy.trans (hb4.mono (by omega))
        have hS4 : Sl (fun _ => False) 1 (En encN) w4 r (imgM us.length (Rch (hasN nm) (ptsU us) back x) L) := (hO.sl.weaken (fun _ h => h.elim)).below hb4
        simp -dsimp only [push_cast, Nat.reduceAdd, Nat.reduceLeDiff, Nat.reduceBEq, Int.reduceNe, Int.reduceEq, Int.reduceLT, Int.reduceLE]
        -- w4: the world; hS4: Sl; hO.nilArg: Arg; (imgM us.length (Rch (hasN nm) (ptsU us) back x) L): the list; r: the value; hbw4: Below; hmR: what it holds; (imgM_rise _ _ _): it rises
        have hbR := hbw4
        have zR := hbR.size
        have hlR := rise_len (imgM_rise _ _ _) (fun j hj => ((hmR j).1 hj).1)
        refine callK_of (cloneN_c (imgM us.length (Rch (hasN nm) (ptsU us) back x) L) (by omega) (fun _ => False) r (w4) hS4 hO.nilArg) ?_
        rintro vo wo ⟨hOo, hbo⟩
        have zo := hbo.size
        have hbwo := hbR.trans (hbo.mono zR)
        simp -dsimp only [push_cast, Nat.reduceAdd, Nat.reduceLeDiff, Nat.reduceBEq, Int.reduceNe, Int.reduceEq, Int.reduceLT, Int.reduceLE, d3 _ hbwo]
        refine wpL_loop [7, 9, 10, 11, 39, 40, 41, 42, 43, 44, 45, 46, 47, 48, 49, 50, 51, 52, 53, 54, 55, 56, 57, 58, 59, 60, 61, 62, 63, 64, 65, 66, 67, 68, 69, 70, 71, 72, 73, 74, 75, 76, 77, 78, 79, 80, 81, 82, 83, 84, 85, 86, 87] (fun z wx => ∃ (k : Nat) (nv : Value) (N1 : List Nat) (ov : Value) (M : List Nat), z 10 = .int .i64 ((lo + k : Nat) : Int) ∧ z 7 = nv ∧ z 9 = ov ∧ Sl (fun _ => False) 1 (En encN) wx nv N1 ∧ Arg nv ∧ N1.Pairwise (· < ·) ∧ (∀ j, j ∈ N1 ↔ j ≤ us.length ∧ stM (Rch (hasN nm) (ptsU us) back x) from_ (lo + k) j) ∧ Vc.Own w.heap.size 3 1 encN wx ov M ∧ M.Pairwise (· < ·) ∧ (∀ j, j ∈ M ↔ j ≤ us.length ∧ ∃ s, s ≤ k ∧ stM (Rch (hasN nm) (ptsU us) back x) from_ (lo + s) j) ∧ (hi < 0 ∨ ((lo + k : Nat) : Int) ≤ hi) ∧ (hi < 0 → k ≤ M.length) ∧ Below w.heap.size w wx) (fun z _ => if hi < 0 then us.length + 2 - lenV (z 9) else (hi - intOf (z 10)).toNat) ?_ ?_
        · refine ⟨0, _, (imgM us.length (Rch (hasN nm) (ptsU us) back x) L), _, (imgM us.length (Rch (hasN nm) (ptsU us) back x) L), rfl, rfl, rfl, (hS4).below hbo, hO.nilArg, (imgM_rise _ _ _), hmR, hOo.mono zR, (imgM_rise _ _ _), fun j => ?_, hlh, fun _ => Nat.zero_le _, hbwo⟩
          rw [hmR j]
          refine and_congr Iff.rfl ?_
          constructor
          · intro hh; exact ⟨0, Nat.le_refl _, hh⟩
          · rintro ⟨s, hs, hh⟩
            have : s = 0 := by omega
            subst this; exact hh
        · intro z wx hI
          obtain ⟨k, nv, N1, ov, M, h10, h7, h9, hN1, haN, hrN, hmN, hO, hrM, hmM, hgo, hkM, hbx⟩ := hI
          have zx := hbx.size
          have hlN := rise_len hrN (fun j hj => ((hmN j).1 hj).1)
          have hlM := rise_len hrM (fun j hj => ((hmM j).1 hj).1)
          have hsh := hN1.shape
          obtain ⟨na, nc, rfl, _⟩ := hsh
          have hsh := hO.slice
          obtain ⟨oa, oc, rfl⟩ := hsh
          simp -dsimp only [push_cast, Nat.reduceAdd, Nat.reduceLeDiff, Nat.reduceBEq, Int.reduceNe, Int.reduceEq, Int.reduceLT, Int.reduceLE, h10, h7, h9, d4 _ hbx, d2 _ hbx, cx _ hbx]
          refine ⟨fun hneg => ⟨fun hlt2 => ⟨fun hpos => ⟨by omega, ?_⟩, fun hz => ?_⟩, fun hge2 => ?_⟩, fun hneg => ⟨fun hpos => ⟨by omega, ?_⟩, fun hz => ?_⟩⟩
          · skip
            -- hn: there is a place now; hgo: more times may be
            refine callK_of (hx hok hpn X wx rb mb us nm _ (h.below hbx) _ (PatV.below hV hbx) _ N1 hN1 haN hrN (fun j hj => ((hmN j).1 hj).1)) ?_
            rintro r wy ⟨hO2, hby⟩
            have zy := hby.size
            have hbwy := hbx.trans (hby.mono zx)
            have hil2 := rise_len (imgM_rise us.length (Rch (hasN nm) (ptsU us) back x) N1) (fun j hj => (imgM_mem.1 hj).1)
            have hmY := img_step hmN (hstl (lo + k))
            have haY : Arg r := hO2.nilArg
            have hOy := hO.below hby
            simp -dsimp only [push_cast, Nat.reduceAdd, Nat.reduceLeDiff, Nat.reduceBEq, Int.reduceNe, Int.reduceEq, Int.reduceLT, Int.reduceLE]
            refine appendAny2 (base := w.heap.size) (enc := encN) (ys := imgM us.length (Rch (hasN nm) (ptsU us) back x) N1) elI_53 hOy (hO2.sl) haY (by simp [encN, Value.oneCell']) (by omega) (by omega) ?_
            intro v5 w5 hO5 hg5 hb5 hn5
            have z5 := hb5.size
            have hbw5 := hbwy.trans (hb5.mono (by omega))
            have hl5 : (M ++ imgM us.length (Rch (hasN nm) (ptsU us) back x) N1).length ≤ 3000 := by rw [List.length_append]; omega
            simp -dsimp only [push_cast, Nat.reduceAdd, Nat.reduceLeDiff, Nat.reduceBEq, Int.reduceNe, Int.reduceEq, Int.reduceLT, Int.reduceLE]
            refine callK_of (sortN_c _ (by omega) _ v5 w5 hO5) ?_
            rintro _ w6 ⟨⟨m1, hm1, hO6⟩, hk6⟩
            have z6 := hk6.size
            have hfl6 := fin_len hm1
            simp -dsimp only [push_cast, Nat.reduceAdd, Nat.reduceLeDiff, Nat.reduceBEq, Int.reduceNe, Int.reduceEq, Int.reduceLT, Int.reduceLE]
            refine callK_of (compactN_c m1 (by omega) _ v5 w6 hO6) ?_
            rintro v7 w7 ⟨⟨m2, hm2, hO7, howne⟩, hk7⟩
            have z7 := hk7.size
            obtain ⟨hrM2, hmM2⟩ := merge_is hm1 hm2
            have hbw7 : Below w.heap.size w w7 := hbw5.trans ((hk6.below (by omega) (fun i h => (hO5.block i h).1)).trans (hk7.below (by omega) (fun i h => (hO5.block i h).1)))
            have hOr5 := hO2.keptX (Kept.grown hg5 (X := fun j => (Value.slice oa M.length oc).ownBlock = some j) (fun _ h => h)) (fun g hg hh => by have := hO2.block g hg; have := hO.block g hh; omega)
            have hne5 : ∀ g, r.ownBlock = some g → v5.ownBlock ≠ some g := fun g hg hh => by
              have h1 := hO2.block g hg
              rcases hn5 g hh with h2 | h2
              · have := hO.block g h2; omega
              · omega
            have hOr7 := (hOr5.keptX hk6 (fun g hg hh => hne5 g hg hh)).keptX hk7 (fun g hg hh => hne5 g hg hh)
            have hN7 : Sl (fun _ => False) 1 (En encN) w7 r (imgM us.length (Rch (hasN nm) (ptsU us) back x) N1) := hOr7.sl.weaken (fun _ h => h.elim)
            have hmM3 : ∀ j, j ∈ m2 ↔ j ≤ us.length ∧ ∃ s, s ≤ k + 1 ∧ stM (Rch (hasN nm) (ptsU us) back x) from_ (lo + s) j := fun j => by
              rw [hmM2, List.mem_append, hmM j, hmY j]
              constructor
              · rintro (⟨h1, s, h2, h3⟩ | ⟨h1, h2⟩)
                · exact ⟨h1, s, by omega, h3⟩
                · exact ⟨h1, k + 1, Nat.le_refl _, h2⟩
              · rintro ⟨h1, s, h2, h3⟩
                by_cases hs : s = k + 1
                · subst hs; exact .inr ⟨h1, h3⟩
                · exact .inl ⟨h1, s, by omega, h3⟩
            have hsub : ∀ y ∈ M, y ∈ m2 := fun y hy => (hmM2 y).2 (List.mem_append_left _ hy)
            have hle2 := rise_sub hrM hrM2 hsub
            have hl2 := rise_len hrM2 (fun j hj => ((hmM3 j).1 hj).1)
            have hsh := hO7.slice
            obtain ⟨o7, c7, rfl⟩ := hsh
            simp -dsimp only [push_cast, Nat.reduceAdd, Nat.reduceLeDiff, Nat.reduceBEq, Int.reduceNe, Int.reduceEq, Int.reduceLT, Int.reduceLE, d4 _ hbw7]
            have hz10 : (Value.int .i64 ((lo : Int) + k + 1)) = .int .i64 ((lo + (k + 1) : Nat) : Int) := by
              congr 1
            refine ⟨fun hneg2 => ⟨fun hsl => ?_, fun hns => ⟨⟨by omega, by have := hkM hneg2; omega⟩, ?_, ?_⟩⟩, fun hnn => ⟨⟨by omega, by omega⟩, ?_, ?_⟩⟩
            · have heq := rise_same hrM hrM2 hsub (by omega)
              refine ⟨⟨m2, hO7, by omega, many_fin hmM3 (.inl hneg2) fun t j ht hst => ?_⟩, hbw7⟩
              have := stM_done (a := lo) (k := k) (fun j hj => by
                have h1 : j ∈ m2 := (hmM3 j).2 ⟨hstl _ j hj, k + 1, Nat.le_refl _, hj⟩
                rw [← heq] at h1
                exact ((hmM j).1 h1).2) t j hst
              obtain ⟨s, hs, h2⟩ := this
              exact ⟨s, by omega, h2⟩
            · exact ⟨k + 1, _, _, _, m2, hz10, rfl, rfl, hN7, haY, imgM_rise _ _ _, hmY, hO7, hrM2, hmM3, .inl hneg2, (fun _ => by have := hkM hneg2; omega), hbw7⟩
            · rw [h9, h10]
              simp only [if_pos hneg2, lenV]
              omega
            · exact ⟨k + 1, _, _, _, m2, hz10, rfl, rfl, hN7, haY, imgM_rise _ _ _, hmY, hO7, hrM2, hmM3, .inr (by omega), (fun hh => absurd hh hnn), hbw7⟩
            · rw [h9, h10]
              simp only [if_neg hnn, intOf]
              omega
          · skip
            refine ⟨⟨M, hO, by omega, many_fin hmM hgo fun t j ht hst => ?_⟩, hbx⟩
            by_cases htk : t < k
            · exact ⟨t, by omega, hst⟩
            · have hno : ∀ j, ¬ stM (Rch (hasN nm) (ptsU us) back x) from_ (lo + k) j := fun j hj => by
                have hm := (hmN j).2 ⟨hstl _ j hj, hj⟩
                have : N1 = [] := List.eq_nil_of_length_eq_zero (by omega)
                rw [this] at hm; cases hm
              have := stM_none hno (t - k) j
              rw [show lo + k + (t - k) = lo + t by omega] at this
              exact absurd hst this
          · refine ⟨⟨M, hO, by omega, many_fin hmM hgo fun t j ht hst => ?_⟩, hbx⟩
            rcases ht with ht | ht
            · omega
            · exact ⟨t, by omega, hst⟩
          · skip
            -- hn: there is a place now; hgo: more times may be
            refine callK_of (hx hok hpn X wx rb mb us nm _ (h.below hbx) _ (PatV.below hV hbx) _ N1 hN1 haN hrN (fun j hj => ((hmN j).1 hj).1)) ?_
            rintro r wy ⟨hO2, hby⟩
            have zy := hby.size
            have hbwy := hbx.trans (hby.mono zx)
            have hil2 := rise_len (imgM_rise us.length (Rch (hasN nm) (ptsU us) back x) N1) (fun j hj => (imgM_mem.1 hj).1)
            have hmY := img_step hmN (hstl (lo + k))
            have haY : Arg r := hO2.nilArg
            have hOy := hO.below hby
            simp -dsimp only [push_cast, Nat.reduceAdd, Nat.reduceLeDiff, Nat.reduceBEq, Int.reduceNe, Int.reduceEq, Int.reduceLT, Int.reduceLE]
            refine appendAny2 (base := w.heap.size) (enc := encN) (ys := imgM us.length (Rch (hasN nm) (ptsU us) back x) N1) elI_53 hOy (hO2.sl) haY (by simp [encN, Value.oneCell']) (by omega) (by omega) ?_
            intro v5 w5 hO5 hg5 hb5 hn5
            have z5 := hb5.size
            have hbw5 := hbwy.trans (hb5.mono (by omega))
            have hl5 : (M ++ imgM us.length (Rch (hasN nm) (ptsU us) back x) N1).length ≤ 3000 := by rw [List.length_append]; omega
            simp -dsimp only [push_cast, Nat.reduceAdd, Nat.reduceLeDiff, Nat.reduceBEq, Int.reduceNe, Int.reduceEq, Int.reduceLT, Int.reduceLE]
            refine callK_of (sortN_c _ (by omega) _ v5 w5 hO5) ?_
            rintro _ w6 ⟨⟨m1, hm1, hO6⟩, hk6⟩
            have z6 := hk6.size
            have hfl6 := fin_len hm1
            simp -dsimp only [push_cast, Nat.reduceAdd, Nat.reduceLeDiff, Nat.reduceBEq, Int.reduceNe, Int.reduceEq, Int.reduceLT, Int.reduceLE]
            refine callK_of (compactN_c m1 (by omega) _ v5 w6 hO6) ?_
            rintro v7 w7 ⟨⟨m2, hm2, hO7, howne⟩, hk7⟩
            have z7 := hk7.size
            obtain ⟨hrM2, hmM2⟩ := merge_is hm1 hm2
            have hbw7 : Below w.heap.size w w7 := hbw5.trans ((hk6.below (by omega) (fun i h => (hO5.block i h).1)).trans (hk7.below (by omega) (fun i h => (hO5.block i h).1)))
            have hOr5 := hO2.keptX (Kept.grown hg5 (X := fun j => (Value.slice oa M.length oc).ownBlock = some j) (fun _ h => h)) (fun g hg hh => by have := hO2.block g hg; have := hO.block g hh; omega)
            have hne5 : ∀ g, r.ownBlock = some g → v5.ownBlock ≠ some g := fun g hg hh => by
              have h1 := hO2.block g hg
              rcases hn5 g hh with h2 | h2
              · have := hO.block g h2; omega
              · omega
            have hOr7 := (hOr5.keptX hk6 (fun g hg hh => hne5 g hg hh)).keptX hk7 (fun g hg hh => hne5 g hg hh)
            have hN7 : Sl (fun _ => False) 1 (En encN) w7 r (imgM us.length (Rch (hasN nm) (ptsU us) back x) N1) := hOr7.sl.weaken (fun _ h => h.elim)
            have hmM3 : ∀ j, j ∈ m2 ↔ j ≤ us.length ∧ ∃ s, s ≤ k + 1 ∧ stM (Rch (hasN nm) (ptsU us) back x) from_ (lo + s) j := fun j => by
              rw [hmM2, List.mem_append, hmM j, hmY j]
              constructor
              · rintro (⟨h1, s, h2, h3⟩ | ⟨h1, h2⟩)
                · exact ⟨h1, s, by omega, h3⟩
                · exact ⟨h1, k + 1, Nat.le_refl _, h2⟩
              · rintro ⟨h1, s, h2, h3⟩
                by_cases hs : s = k + 1
                · subst hs; exact .inr ⟨h1, h3⟩
                · exact .inl ⟨h1, s, by omega, h3⟩
            have hsub : ∀ y ∈ M, y ∈ m2 := fun y hy => (hmM2 y).2 (List.mem_append_left _ hy)
            have hle2 := rise_sub hrM hrM2 hsub
            have hl2 := rise_len hrM2 (fun j hj => ((hmM3 j).1 hj).1)
            have hsh := hO7.slice
            obtain ⟨o7, c7, rfl⟩ := hsh
            simp -dsimp only [push_cast, Nat.reduceAdd, Nat.reduceLeDiff, Nat.reduceBEq, Int.reduceNe, Int.reduceEq, Int.reduceLT, Int.reduceLE, d4 _ hbw7]
            have hz10 : (Value.int .i64 ((lo : Int) + k + 1)) = .int .i64 ((lo + (k + 1) : Nat) : Int) := by
              congr 1
            refine ⟨fun hneg2 => ⟨fun hsl => ?_, fun hns => ⟨⟨by omega, by have := hkM hneg2; omega⟩, ?_, ?_⟩⟩, fun hnn => ⟨⟨by omega, by omega⟩, ?_, ?_⟩⟩
            · have heq := rise_same hrM hrM2 hsub (by omega)
              refine ⟨⟨m2, hO7, by omega, many_fin hmM3 (.inl hneg2) fun t j ht hst => ?_⟩, hbw7⟩
              have := stM_done (a := lo) (k := k) (fun j hj => by
                have h1 : j ∈ m2 := (hmM3 j).2 ⟨hstl _ j hj, k + 1, Nat.le_refl _, hj⟩
                rw [← heq] at h1
                exact ((hmM j).1 h1).2) t j hst
              obtain ⟨s, hs, h2⟩ := this
              exact ⟨s, by omega, h2⟩
            · exact ⟨k + 1, _, _, _, m2, hz10, rfl, rfl, hN7, haY, imgM_rise _ _ _, hmY, hO7, hrM2, hmM3, .inl hneg2, (fun _ => by have := hkM hneg2; omega), hbw7⟩
            · rw [h9, h10]
              simp only [if_pos hneg2, lenV]
              omega
            · exact ⟨k + 1, _, _, _, m2, hz10, rfl, rfl, hN7, haY, imgM_rise _ _ _, hmY, hO7, hrM2, hmM3, .inr (by omega), (fun hh => absurd hh hnn), hbw7⟩
            · rw [h9, h10]
              simp only [if_neg hnn, intOf]
              omega
          · skip
            refine ⟨⟨M, hO, by omega, many_fin hmM hgo fun t j ht hst => ?_⟩, hbx⟩
            by_cases htk : t < k
            · exact ⟨t, by omega, hst⟩
            · have hno : ∀ j, ¬ stM (Rch (hasN nm) (ptsU us) back x) from_ (lo + k) j := fun j hj => by
                have hm := (hmN j).2 ⟨hstl _ j hj, hj⟩
                have : N1 = [] := List.eq_nil_of_length_eq_zero (by omega)
                rw [this] at hm; cases hm
              have := stM_none hno (t - k) j
              rw [show lo + k + (t - k) = lo + t by omega] at this
              exact absurd hst this
      · rw [decide_eq_false heq]
        simp -dsimp only [push_cast, Nat.reduceAdd, Nat.reduceLeDiff, Nat.reduceBEq, Int.reduceNe, Int.reduceEq, Int.reduceLT, Int.reduceLE]
        exact ⟨⟨by omega, by omega⟩, ⟨t + 1, _, _, rfl, rfl, by omega, (hO.sl.weaken (fun _ h => h.elim)).below hb4, hO.nilArg, imgM_rise _ _ _, hmY, hbwy.trans (hb4.mono (by omega))⟩, by rw [h17]; simp only [intOf]; omega⟩
    · have htl : t = lo := by omega
      rw [htl] at hmL
      -- wx: the world; hL: Sl; haL: Arg; L: the list; ov: the value; hbx: Below; hmL: what it holds; hrL: it rises
      have hbR := hbx
      have zR := hbR.size
      have hlR := rise_len hrL (fun j hj => ((hmL j).1 hj).1)
      refine callK_of (cloneN_c L (by omega) (fun _ => False) ov (wx) hL haL) ?_
      rintro vo wo ⟨hOo, hbo⟩
      have zo := hbo.size
      have hbwo := hbR.trans (hbo.mono zR)
      simp -dsimp only [push_cast, Nat.reduceAdd, Nat.reduceLeDiff, Nat.reduceBEq, Int.reduceNe, Int.reduceEq, Int.reduceLT, Int.reduceLE, d3 _ hbwo]
      refine wpL_loop [7, 9, 10, 11, 39, 40, 41, 42, 43, 44, 45, 46, 47, 48, 49, 50, 51, 52, 53, 54, 55, 56, 57, 58, 59, 60, 61, 62, 63, 64, 65, 66, 67, 68, 69, 70, 71, 72, 73, 74, 75, 76, 77, 78, 79, 80, 81, 82, 83, 84, 85, 86, 87] (fun z wx => ∃ (k : Nat) (nv : Value) (N1 : List Nat) (ov : Value) (M : List Nat), z 10 = .int .i64 ((lo + k : Nat) : Int) ∧ z 7 = nv ∧ z 9 = ov ∧ Sl (fun _ => False) 1 (En encN) wx nv N1 ∧ Arg nv ∧ N1.Pairwise (· < ·) ∧ (∀ j, j ∈ N1 ↔ j ≤ us.length ∧ stM (Rch (hasN nm) (ptsU us) back x) from_ (lo + k) j) ∧ Vc.Own w.heap.size 3 1 encN wx ov M ∧ M.Pairwise (· < ·) ∧ (∀ j, j ∈ M ↔ j ≤ us.length ∧ ∃ s, s ≤ k ∧ stM (Rch (hasN nm) (ptsU us) back x) from_ (lo + s) j) ∧ (hi < 0 ∨ ((lo + k : Nat) : Int) ≤ hi) ∧ (hi < 0 → k ≤ M.length) ∧ Below w.heap.size w wx) (fun z _ => if hi < 0 then us.length + 2 - lenV (z 9) else (hi - intOf (z 10)).toNat) ?_ ?_
      · refine ⟨0, _, L, _, L, rfl, rfl, rfl, (hL).below hbo, haL, hrL, hmL, hOo.mono zR, hrL, fun j => ?_, hlh, fun _ => Nat.zero_le _, hbwo⟩
        rw [hmL j]
        refine and_congr Iff.rfl ?_
        constructor
        · intro hh; exact ⟨0, Nat.le_refl _, hh⟩
        · rintro ⟨s, hs, hh⟩
          have : s = 0 := by omega
          subst this; exact hh
      · intro z wx hI
        obtain ⟨k, nv, N1, ov, M, h10, h7, h9, hN1, haN, hrN, hmN, hO, hrM, hmM, hgo, hkM, hbx⟩ := hI
        have zx := hbx.size
        have hlN := rise_len hrN (fun j hj => ((hmN j).1 hj).1)
        have hlM := rise_len hrM (fun j hj => ((hmM j).1 hj).1)
        have hsh := hN1.shape
        obtain ⟨na, nc, rfl, _⟩ := hsh
        have hsh := hO.slice
        obtain ⟨oa, oc, rfl⟩ := hsh
        simp -dsimp only [push_cast, Nat.reduceAdd, Nat.reduceLeDiff, Nat.reduceBEq, Int.reduceNe, Int.reduceEq, Int.reduceLT, Int.reduceLE, h10, h7, h9, d4 _ hbx, d2 _ hbx, cx _ hbx]
        refine ⟨fun hneg => ⟨fun hlt2 => ⟨fun hpos => ⟨by omega, ?_⟩, fun hz => ?_⟩, fun hge2 => ?_⟩, fun hneg => ⟨fun hpos => ⟨by omega, ?_⟩, fun hz => ?_⟩⟩
        · skip
          -- hn: there is a place now; hgo: more times may be
          refine callK_of (hx hok hpn X wx rb mb us nm _ (h.below hbx) _ (PatV.below hV hbx) _ N1 hN1 haN hrN (fun j hj => ((hmN j).1 hj).1)) ?_
          rintro r wy ⟨hO2, hby⟩
          have zy := hby.size
          have hbwy := hbx.trans (hby.mono zx)
          have hil2 := rise_len (imgM_rise us.length (Rch (hasN nm) (ptsU us) back x) N1) (fun j hj => (imgM_mem.1 hj).1)
          have hmY := img_step hmN (hstl (lo + k))
          have haY : Arg r := hO2.nilArg
          have hOy := hO.below hby
          simp -dsimp only [push_cast, Nat.reduceAdd, Nat.reduceLeDiff, Nat.reduceBEq, Int.reduceNe, Int.reduceEq, Int.reduceLT, Int.reduceLE]
          refine appendAny2 (base := w.heap.size) (enc := encN) (ys := imgM us.length (Rch (hasN nm) (ptsU us) back x) N1) elI_53 hOy (hO2.sl) haY (by simp [encN, Value.oneCell']) (by omega) (by omega) ?_
          intro v5 w5 hO5 hg5 hb5 hn5
          have z5 := hb5.size
          have hbw5 := hbwy.trans (hb5.mono (by omega))
          have hl5 : (M ++ imgM us.length (Rch (hasN nm) (ptsU us) back x) N1).length ≤ 3000 := by rw [List.length_append]; omega
          simp -dsimp only [push_cast, Nat.reduceAdd, Nat.reduceLeDiff, Nat.reduceBEq, Int.reduceNe, Int.reduceEq, Int.reduceLT, Int.reduceLE]
          refine callK_of (sortN_c _ (by omega) _ v5 w5 hO5) ?_
          rintro _ w6 ⟨⟨m1, hm1, hO6⟩, hk6⟩
          have z6 := hk6.size
          have hfl6 := fin_len hm1
          simp -dsimp only [push_cast, Nat.reduceAdd, Nat.reduceLeDiff, Nat.reduceBEq, Int.reduceNe, Int.reduceEq, Int.reduceLT, Int.reduceLE]
          refine callK_of (compactN_c m1 (by omega) _ v5 w6 hO6) ?_
          rintro v7 w7 ⟨⟨m2, hm2, hO7, howne⟩, hk7⟩
          have z7 := hk7.size
          obtain ⟨hrM2, hmM2⟩ := merge_is hm1 hm2
          have hbw7 : Below w.heap.size w w7 := hbw5.trans ((hk6.below (by omega) (fun i h => (hO5.block i h).1)).trans (hk7.below (by omega) (fun i h => (hO5.block i h).1)))
          have hOr5 := hO2.keptX (Kept.grown hg5 (X := fun j => (Value.slice oa M.length oc).ownBlock = some j) (fun _ h => h)) (fun g hg hh => by have := hO2.block g hg; have := hO.block g hh; omega)
          have hne5 : ∀ g, r.ownBlock = some g → v5.ownBlock ≠ some g := fun g hg hh => by
            have h1 := hO2.block g hg
            rcases hn5 g hh with h2 | h2
            · have := hO.block g h2; omega
            · omega
          have hOr7 := (hOr5.keptX hk6 (fun g hg hh => hne5 g hg hh)).keptX hk7 (fun g hg hh => hne5 g hg hh)
          have hN7 : Sl (fun _ => False) 1 (En encN) w7 r (imgM us.length (Rch (hasN nm) (ptsU us) back x) N1) := hOr7.sl.weaken (fun _ h => h.elim)
          have hmM3 : ∀ j, j ∈ m2 ↔ j ≤ us.length ∧ ∃ s, s ≤ k + 1 ∧ stM (Rch (hasN nm) (ptsU us) back x) from_ (lo + s) j := fun j => by
            rw [hmM2, List.mem_append, hmM j, hmY j]
            constructor
            · rintro (⟨h1, s, h2, h3⟩ | ⟨h1, h2⟩)
              · exact ⟨h1, s, by omega, h3⟩
              · exact ⟨h1, k + 1, Nat.le_refl _, h2⟩
            · rintro ⟨h1, s, h2, h3⟩
              by_cases hs : s = k + 1
              · subst hs; exact .inr ⟨h1, h3⟩
              · exact .inl ⟨h1, s, by omega, h3⟩
          have hsub : ∀ y ∈ M, y ∈ m2 := fun y hy => (hmM2 y).2 (List.mem_append_left _ hy)
          have hle2 := rise_sub hrM hrM2 hsub
          have hl2 := rise_len hrM2 (fun j hj => ((hmM3 j).1 hj).1)
          have hsh := hO7.slice
          obtain ⟨o7, c7, rfl⟩ := hsh
          simp -dsimp only [push_cast, Nat.reduceAdd, Nat.reduceLeDiff, Nat.reduceBEq, Int.reduceNe, Int.reduceEq, Int.reduceLT, Int.reduceLE, d4 _ hbw7]
          have hz10 : (Value.int .i64 ((lo : Int) + k + 1)) = .int .i64 ((lo + (k + 1) : Nat) : Int) := by
            congr 1
          refine ⟨fun hneg2 => ⟨fun hsl => ?_, fun hns => ⟨⟨by omega, by have := hkM hneg2; omega⟩, ?_, ?_⟩⟩, fun hnn => ⟨⟨by omega, by omega⟩, ?_, ?_⟩⟩
          · have heq := rise_same hrM hrM2 hsub (by omega)
            refine ⟨⟨m2, hO7, by omega, many_fin hmM3 (.inl hneg2) fun t j ht hst => ?_⟩, hbw7⟩
            have := stM_done (a := lo) (k := k) (fun j hj => by
              have h1 : j ∈ m2 := (hmM3 j).2 ⟨hstl _ j hj, k + 1, Nat.le_refl _, hj⟩
              rw [← heq] at h1
              exact ((hmM j).1 h1).2) t j hst
            obtain ⟨s, hs, h2⟩ := this
            exact ⟨s, by omega, h2⟩
          · exact ⟨k + 1, _, _, _, m2, hz10, rfl, rfl, hN7, haY, imgM_rise _ _ _, hmY, hO7, hrM2, hmM3, .inl hneg2, (fun _ => by have := hkM hneg2; omega), hbw7⟩
          · rw [h9, h10]
            simp only [if_pos hneg2, lenV]
            omega
          · exact ⟨k + 1, _, _, _, m2, hz10, rfl, rfl, hN7, haY, imgM_rise _ _ _, hmY, hO7, hrM2, hmM3, .inr (by omega), (fun hh => absurd hh hnn), hbw7⟩
          · rw [h9, h10]
            simp only [if_neg hnn, intOf]
            omega
        · skip
          refine ⟨⟨M, hO, by omega, many_fin hmM hgo fun t j ht hst => ?_⟩, hbx⟩
          by_cases htk : t < k
          · exact ⟨t, by omega, hst⟩
          · have hno : ∀ j, ¬ stM (Rch (hasN nm) (ptsU us) back x) from_ (lo + k) j := fun j hj => by
              have hm := (hmN j).2 ⟨hstl _ j hj, hj⟩
              have : N1 = [] := List.eq_nil_of_length_eq_zero (by omega)
              rw [this] at hm; cases hm
            have := stM_none hno (t - k) j
            rw [show lo + k + (t - k) = lo + t by omega] at this
            exact absurd hst this
        · refine ⟨⟨M, hO, by omega, many_fin hmM hgo fun t j ht hst => ?_⟩, hbx⟩
          rcases ht with ht | ht
          · omega
          · exact ⟨t, by omega, hst⟩
        · skip
          -- hn: there is a place now; hgo: more times may be
          refine callK_of (hx hok hpn X wx rb mb us nm _ (h.below hbx) _ (PatV.below hV hbx) _ N1 hN1 haN hrN (fun j hj => ((hmN j).1 hj).1)) ?_
          rintro r wy ⟨hO2, hby⟩
          have zy := hby.size
          have hbwy := hbx.trans (hby.mono zx)
          have hil2 := rise_len (imgM_rise us.length (Rch (hasN nm) (ptsU us) back x) N1) (fun j hj => (imgM_mem.1 hj).1)
          have hmY := img_step hmN (hstl (lo + k))
          have haY : Arg r := hO2.nilArg
          have hOy := hO.below hby
          simp -dsimp only [push_cast, Nat.reduceAdd, Nat.reduceLeDiff, Nat.reduceBEq, Int.reduceNe, Int.reduceEq, Int.reduceLT, Int.reduceLE]
          refine appendAny2 (base := w.heap.size) (enc := encN) (ys := imgM us.length (Rch (hasN nm) (ptsU us) back x) N1) elI_53 hOy (hO2.sl) haY (by simp [encN, Value.oneCell']) (by omega) (by omega) ?_
          intro v5 w5 hO5 hg5 hb5 hn5
          have z5 := hb5.size
          have hbw5 := hbwy.trans (hb5.mono (by omega))
          have hl5 : (M ++ imgM us.length (Rch (hasN nm) (ptsU us) back x) N1).length ≤ 3000 := by rw [List.length_append]; omega
          simp -dsimp only [push_cast, Nat.reduceAdd, Nat.reduceLeDiff, Nat.reduceBEq, Int.reduceNe, Int.reduceEq, Int.reduceLT, Int.reduceLE]
          refine callK_of (sortN_c _ (by omega) _ v5 w5 hO5) ?_
          rintro _ w6 ⟨⟨m1, hm1, hO6⟩, hk6⟩
          have z6 := hk6.size
          have hfl6 := fin_len hm1
          simp -dsimp only [push_cast, Nat.reduceAdd, Nat.reduceLeDiff, Nat.reduceBEq, Int.reduceNe, Int.reduceEq, Int.reduceLT, Int.reduceLE]
          refine callK_of (compactN_c m1 (by omega) _ v5 w6 hO6) ?_
          rintro v7 w7 ⟨⟨m2, hm2, hO7, howne⟩, hk7⟩
          have z7 := hk7.size
          obtain ⟨hrM2, hmM2⟩ := merge_is hm1 hm2
          have hbw7 : Below w.heap.size w w7 := hbw5.trans ((hk6.below (by omega) (fun i h => (hO5.block i h).1)).trans (hk7.below (by omega) (fun i h => (hO5.block i h).1)))
          have hOr5 := hO2.keptX (Kept.grown hg5 (X := fun j => (Value.slice oa M.length oc).ownBlock = some j) (fun _ h => h)) (fun g hg hh => by have := hO2.block g hg; have := hO.block g hh; omega)
          have hne5 : ∀ g, r.ownBlock = some g → v5.ownBlock ≠ some g := fun g hg hh => by
            have h1 := hO2.block g hg
            rcases hn5 g hh with h2 | h2
            · have := hO.block g h2; omega
            · omega
          have hOr7 := (hOr5.keptX hk6 (fun g hg hh => hne5 g hg hh)).keptX hk7 (fun g hg hh => hne5 g hg hh)
          have hN7 : Sl (fun _ => False) 1 (En encN) w7 r (imgM us.length (Rch (hasN nm) (ptsU us) back x) N1) := hOr7.sl.weaken (fun _ h => h.elim)
          have hmM3 : ∀ j, j ∈ m2 ↔ j ≤ us.length ∧ ∃ s, s ≤ k + 1 ∧ stM (Rch (hasN nm) (ptsU us) back x) from_ (lo + s) j := fun j => by
            rw [hmM2, List.mem_append, hmM j, hmY j]
            constructor
            · rintro (⟨h1, s, h2, h3⟩ | ⟨h1, h2⟩)
              · exact ⟨h1, s, by omega, h3⟩
              · exact ⟨h1, k + 1, Nat.le_refl _, h2⟩
            · rintro ⟨h1, s, h2, h3⟩
              by_cases hs : s = k + 1
              · subst hs; exact .inr ⟨h1, h3⟩
              · exact .inl ⟨h1, s, by omega, h3⟩
          have hsub : ∀ y ∈ M, y ∈ m2 := fun y hy => (hmM2 y).2 (List.mem_append_left _ hy)
          have hle2 := rise_sub hrM hrM2 hsub
          have hl2 := rise_len hrM2 (fun j hj => ((hmM3 j).1 hj).1)
          have hsh := hO7.slice
          obtain ⟨o7, c7, rfl⟩ := hsh
          simp -dsimp only [push_cast, Nat.reduceAdd, Nat.reduceLeDiff, Nat.reduceBEq, Int.reduceNe, Int.reduceEq, Int.reduceLT, Int.reduceLE, d4 _ hbw7]
          have hz10 : (Value.int .i64 ((lo : Int) + k + 1)) = .int .i64 ((lo + (k + 1) : Nat) : Int) := by
            congr 1
          refine ⟨fun hneg2 => ⟨fun hsl => ?_, fun hns => ⟨⟨by omega, by have := hkM hneg2; omega⟩, ?_, ?_⟩⟩, fun hnn => ⟨⟨by omega, by omega⟩, ?_, ?_⟩⟩
          · have heq := rise_same hrM hrM2 hsub (by omega)
            refine ⟨⟨m2, hO7, by omega, many_fin hmM3 (.inl hneg2) fun t j ht hst => ?_⟩, hbw7⟩
            have := stM_done (a := lo) (k := k) (fun j hj => by
              have h1 : j ∈ m2 := (hmM3 j).2 ⟨hstl _ j hj, k + 1, Nat.le_refl _, hj⟩
              rw [← heq] at h1
              exact ((hmM j).1 h1).2) t j hst
            obtain ⟨s, hs, h2⟩ := this
            exact ⟨s, by omega, h2⟩
          · exact ⟨k + 1, _, _, _, m2, hz10, rfl, rfl, hN7, haY, imgM_rise _ _ _, hmY, hO7, hrM2, hmM3, .inl hneg2, (fun _ => by have := hkM hneg2; omega), hbw7⟩
          · rw [h9, h10]
            simp only [if_pos hneg2, lenV]
            omega
          · exact ⟨k + 1, _, _, _, m2, hz10, rfl, rfl, hN7, haY, imgM_rise _ _ _, hmY, hO7, hrM2, hmM3, .inr (by omega), (fun hh => absurd hh hnn), hbw7⟩
          · rw [h9, h10]
            simp only [if_neg hnn, intOf]
            omega
        · skip
          refine ⟨⟨M, hO, by omega, many_fin hmM hgo fun t j ht hst => ?_⟩, hbx⟩
          by_cases htk : t < k
          · exact ⟨t, by omega, hst⟩
          · have hno : ∀ j, ¬ stM (Rch (hasN nm) (ptsU us) back x) from_ (lo + k) j := fun j hj => by
              have hm := (hmN j).2 ⟨hstl _ j hj, hj⟩
              have : N1 = [] := List.eq_nil_of_length_eq_zero (by omega)
              rw [this] at hm; cases hm
            have := stM_none hno (t - k) j
            rw [show lo + k + (t - k) = lo + t by omega] at this
            exact absurd hst this
theorem all_many (x : PatP) (lo hi : Int) (hx : AllC x) : AllC (.many x lo hi) := by
  intro hok hpn X w rb mb us nm back h v hV fv from_ hf ha hr hle
  have hlen := h.len
  have hfl := rise_len hr hle
  have hpm := wd_in_many (x := x) (lo := lo) (hi := hi)
  simp only [PatOk] at hok
  obtain ⟨hok1, h0, h1, h2, h3⟩ := hok
  obtain ⟨l, rfl⟩ : ∃ l : Nat, lo = l := ⟨lo.toNat, by omega⟩
  have hV0 := hV
  simp only [PatV] at hV
  obtain ⟨b, sv, u, rfl, hb, hB, hs, hV⟩ := hV
  obtain ⟨fa, fc, rfl, hfc⟩ := hf.shape
  have d0 : w.cell? ⟨b, 0, none⟩ = some (.int .i64 6) := hB.cell rfl
  refine fun_of_vc Tryz.func46 rfl (by kernel_rfl) [6] rfl ?_
  simp -dsimp (maxSteps := 4000000) only [push_cast, fr0, Tryz.ntmps46, List.length_cons, List.length_nil, Nat.reduceAdd, Nat.reduceSub, Nat.reduceBEq, List.replicate_succ, List.replicate_zero]
  simp -dsimp only [push_cast, Nat.reduceAdd, Nat.reduceLeDiff, Nat.reduceBEq, Int.reduceNe, Int.reduceEq, Int.reduceLT, Int.reduceLE, d0]
  refine callK_of (many_c x l hi hx hok1 (by omega) (by omega) h2 h3 X w rb mb us nm back h _ hV0 _ from_ hf ha hr hle) ?_
  rintro r wx ⟨⟨M, hO, hlM, hmM⟩, hbx⟩
  simp -dsimp only [push_cast, Nat.reduceAdd, Nat.reduceLeDiff, Nat.reduceBEq, Int.reduceNe, Int.reduceEq, Int.reduceLT, Int.reduceLE]
  -- wx: the world; (hO.sl.weaken (fun _ h => h.elim)): Sl; hO.nilArg: Arg; M: the list; hbx: Below w wx; hmM: what it holds
  have hbF := hbx
  have zF := hbF.size
  refine callK_of (cloneN_c M (by omega) (fun _ => False) _ (wx) (hO.sl.weaken (fun _ h => h.elim)) hO.nilArg) ?_
  rintro vc wc ⟨hoc, hbc⟩
  have zc := hbc.size
  simp -dsimp only [push_cast, Nat.reduceAdd, Nat.reduceLeDiff, Nat.reduceBEq, Int.reduceNe, Int.reduceEq, Int.reduceLT, Int.reduceLE]
  refine callK_of (sortN_c M (by omega) _ vc wc hoc) ?_
  rintro _ wd ⟨⟨m1, hm1, hod⟩, hkd⟩
  have zd := hkd.size
  have hfl := fin_len hm1
  simp -dsimp only [push_cast, Nat.reduceAdd, Nat.reduceLeDiff, Nat.reduceBEq, Int.reduceNe, Int.reduceEq, Int.reduceLT, Int.reduceLE]
  refine callK_of (compactN_c m1 (by omega) _ vc wd hod) ?_
  rintro vr we ⟨⟨m2, hm2, hoe, howne⟩, hke⟩
  have hfi := fin_is hm1 hm2 hmM
  subst hfi
  simp -dsimp only [push_cast, Nat.reduceAdd, Nat.reduceLeDiff, Nat.reduceBEq, Int.reduceNe, Int.reduceEq, Int.reduceLT, Int.reduceLE]
  exact ⟨hoe.mono zF, hbF.trans ((hbc.mono zF).trans ((hkd.below (by omega) (fun i h => by have := hoc.block i h; omega)).trans (hke.below (by omega) (fun i h => by have := hoc.block i h; omega))))⟩
mutual
theorem all_c:∀x,AllC x
 | .one k=>all_one k
 | .any=>all_any
 | .edge=>all_edge
 | .cat l=>all_cat l (alls_c l)
 | .alt l=>all_alt l (alls_c l)
 | .many x lo hi=>all_many x lo hi (all_c x)
theorem alls_c:∀(l:List PatP) (x:PatP),x∈l→AllC x
 | [],x,h=>by cases h
 | y::l,x,h=>by
  have hy:=all_c y;rcases List.mem_cons.1 h with h|h
  ·rw[h];exact hy
  ·exact alls_c l x h
end
end Go.Proofs.YtledlfbbebodgaaGreatDoor
end
section
namespace Go.Proofs.YtledlfbbebodgaaGreatDoor
open Go.Vc Go.Proofs Go.RowKit Cae
attribute [local irreducible] wpL callK valK unitK runK Fun Sl Vc.Own vc vcOps opK pureK
def chkS (f:FileP):Option (Int×Nat):=match namesS [] f.classes with
 | .error e=>some (errN e)
 | .ok nm=>(rulesS nm f.rules).map fun e=>((7:Int),e)
theorem rulesS_app {nm:NamesP}:∀(a b:List RuleP),rulesS nm (a++b)=match rulesS nm a with
  | some e=>some e
  | none=>rulesS nm b
 | [],b=>by simp only[List.nil_append,rulesS]
 | x::a,b=>by
  simp only[List.cons_append,rulesS];cases ruleS nm x with
  | some e=>rfl
  | none=>exact rulesS_app a b
def PnOk (f:FileP):Prop:=∀r∈f.rules,wd r.before≤100000∧wd r.after≤100000
theorem PatV.weak {X X':Nat→Prop}{w:World}{x:PatP}{v:Value}(h:PatV X w v x)(hX:∀b,X' b→X b):PatV X' w v x:=h.mono (Kept.refl (fun _=>False) w) (fun _ h=>h.elim) hX
theorem check_c (f:FileP)(hok:FileOk f)(hpn:PnOk f)(hlc:f.classes.length≤1000000)(hlr:f.rules.length≤1000000)(X:Nat→Prop)(v:Value)(w:World)(hv:FileV X w v f) :
  Fun Tryz.prog 31 [v] w fun r w'=>ErrAt w.heap.size (chkS f) r w'∧Below w.heap.size w w':=by
 have hv0:=hv;obtain⟨cv,rv,cs,rs,rfl,hcs,hrs,hC,hR⟩:=hv;have hrl:=All2.len hR;obtain⟨ca,cc,rfl,hcc⟩:=hcs.shape;obtain⟨ra,rc,rfl,hrc⟩:=hrs.shape;refine fun_of_vc Tryz.func31 rfl (by kernel_rfl) [2] rfl ?_;push_cast -dsimp(maxSteps:=4000000) [Tryz.ntmps31];refine boxK_of ?_;intro w1 hw1;have hw1:New w w1 26 [.slice ca cs.length cc,.slice ra rs.length rc,.bool f.els]:=hw1;have z1:=hw1.size
 have d0:cellsAt w1 ⟨w.heap.size,0,none⟩ 0 3=some [.slice ca cs.length cc,.slice ra rs.length rc,.bool f.els]:=hw1.blk.cellsAt;have hv1:FileV X w1 (.agg #[.slice ca cs.length cc,.slice ra rs.length rc,.bool f.els]) f:=hv0.below hw1.below;push_cast -dsimp[d0];refine callK_of (names_c f hok.1 hlc X _ w1 hv1) ?_;rintro r w2 ⟨hN,hb2⟩;have z2:=hb2.size;have hbw2:=hw1.below.trans (hb2.mono (by omega))
 have B2:=hw1.blk.below hb2 (by omega);unfold NamesRes at hN;cases hnm:namesS [] f.classes with
 | error e =>
  rw[hnm]at hN;obtain⟨ev,rfl,hE⟩:=hN;obtain⟨eb,heb,rfl,hEB⟩:=hE;push_cast -dsimp;refine⟨?_,hbw2⟩;unfold chkS;rw[hnm];exact⟨eb,by omega,rfl,hEB⟩
 | ok nm =>
  rw[hnm]at hN;obtain⟨mb,hmb,rfl,hNV,hRN⟩:=hN;have d1:w2.cell? ⟨w.heap.size,1,none⟩=some (.slice ra rs.length rc):=B2.cell rfl;push_cast -dsimp[d1];refine wpL_loop [2,6,7,8,20,21,22,23,24,25,26,27,28,29,30,31,32,33,34,35,36,37,38] (fun z wx=>∃(i:Nat),z 20=.int .i64 i∧i≤f.rules.length∧rulesS nm (f.rules.take i)=none∧Below w2.heap.size w2 wx) (fun z _=>f.rules.length-(intOf (z 20)).toNat) ?_ ?_
  ·exact⟨0,rfl,Nat.zero_le _,by simp[rulesS],Below.refl _ _⟩
  ·intro z wx hI;obtain⟨i,h20,hi,hno,hbx2⟩:=hI;have zx:=hbx2.size;have hbx:=hbw2.trans (hbx2.mono (by omega));push_cast -dsimp[h20];refine⟨fun hlt=>?_,fun hge=>?_⟩
   ·obtain⟨c,hc,hcm,_,ht⟩:=lt_get (l:=f.rules) (i:=i) (by omega);obtain⟨x,hx,hxp,hxb,hx1,hx2⟩:=all2_nth hR hc;obtain⟨xp,xb,x1,x2⟩:=x;simp only at hxp hxb hx1 hx2;subst hxp;subst hxb;obtain⟨b1,o,rfl,hnb,hcell⟩:=(hrs.below hbx).get hx
    have c4:cellsAt wx ⟨b1,o+i*4,none⟩ 0 4=some [.int .i64 c.pos,.bool c.brk,.pointer (some ⟨x1,0,none⟩),.pointer (some ⟨x2,0,none⟩)]:=cellsAt_of _ 0 (fun j u hu=>by simpa[encRu,ptrP] using hcell j u hu);push_cast -dsimp[c4];refine⟨⟨by omega,by omega⟩,?_⟩;refine allocK (z:=[.int .i64 0,.bool false,.pointer none,.pointer none]) (by kernel_rfl) ?_;intro wa hwa;have za:=hwa.size;push_cast -dsimp
    refine storeAgg (n:=4) (by kernel_rfl) hwa.blk rfl (by simp) (by simp[Value.oneCell']) ?_;intro wb hwb;have zb:=hwb.size;have hbb:Below wx.heap.size wx wb:=hwa.below.trans (hwb.kept.below (by omega) (fun i h=>by omega));have hb2b:=hbx2.trans (hbb.mono (by omega));have hbwb:=hbx.trans (hbb.mono (by omega))
    have Rb:Blk wb wx.heap.size 50 [.int .i64 c.pos,.bool c.brk,.pointer (some ⟨x1,0,none⟩),.pointer (some ⟨x2,0,none⟩)]:=hwb.blk;have e2:wb.cell? ⟨wx.heap.size,2,none⟩=some (.pointer (some ⟨x1,0,none⟩)):=Rb.cell rfl;have hP1:PatV (fun b=>X b∧b<w1.heap.size) wb (ptrP x1) c.before:=PatV.weak (PatV.below hx1 hbwb) (fun b h=>h.1);push_cast -dsimp[e2]
    refine callK_of (chk_c c.before (hok.2 c hcm).1 (by have:=(hpn c hcm).1;omega) nm hRN _ _ mb wb hP1 (hNV.below hb2b)) ?_;rintro r3 w3 ⟨hE3,hb3⟩;have z3:=hb3.size;have hb23:=hb2b.trans (hb3.mono (by omega));have hbw3:=hbwb.trans (hb3.mono (by omega));have Rc:=Rb.below hb3 Rb.lt;have e3:w3.cell? ⟨wx.heap.size,3,none⟩=some (.pointer (some ⟨x2,0,none⟩)):=Rc.cell rfl
    have hsp:f.rules=f.rules.take (i+1)++f.rules.drop (i+1):=(List.take_append_drop _ _).symm;unfold PatE at hE3;cases hp1:patS nm c.before with
    | some e =>
     rw[hp1]at hE3;obtain⟨eb,heb,rfl,hEB⟩:=hE3;push_cast -dsimp;refine⟨?_,hbw3⟩;have hall:rulesS nm f.rules=some e:=by
      rw[hsp,rulesS_app,ht,rulesS_app,hno];simp only[rulesS,ruleS,hp1]
     unfold chkS;rw[hnm];dsimp only;rw[hall];exact⟨eb,by omega,rfl,hEB⟩
    | none =>
     rw[hp1]at hE3;have hE3:r3=.nilIface:=hE3;subst hE3;have hP2:PatV (fun b=>X b∧b<w1.heap.size) w3 (ptrP x2) c.after:=PatV.weak (PatV.below hx2 hbw3) (fun b h=>h.1);push_cast -dsimp[e3];refine callK_of (chk_c c.after (hok.2 c hcm).2 (by have:=(hpn c hcm).2;omega) nm hRN _ _ mb w3 hP2 (hNV.below hb23)) ?_;rintro r4 w4 ⟨hE4,hb4⟩;have z4:=hb4.size;have hbw4:=hbw3.trans (hb4.mono (by omega))
     unfold PatE at hE4;cases hp2:patS nm c.after with
     | some e =>
      rw[hp2]at hE4;obtain⟨eb,heb,rfl,hEB⟩:=hE4;push_cast -dsimp;refine⟨?_,hbw4⟩;have hall:rulesS nm f.rules=some e:=by
       rw[hsp,rulesS_app,ht,rulesS_app,hno];simp only[rulesS,ruleS,hp1,hp2]
      unfold chkS;rw[hnm];dsimp only;rw[hall];exact⟨eb,by omega,rfl,hEB⟩
     | none =>
      rw[hp2]at hE4;have hE4:r4=.nilIface:=hE4;subst hE4;push_cast -dsimp;refine⟨⟨by omega,by omega⟩,⟨i+1,rfl,by omega,?_,hb23.trans (hb4.mono (by omega))⟩,by rw[h20];simp only[intOf];omega⟩;rw[ht,rulesS_app,hno];simp only[rulesS,ruleS,hp1,hp2]
   ·rw[List.take_of_length_le (by omega)]at hno;refine⟨?_,hbx⟩;unfold chkS;rw[hnm];dsimp only;rw[hno];rfl
end Go.Proofs.YtledlfbbebodgaaGreatDoor
end
section
namespace Cae
section
variable {has:KindP→Int→Prop} {pts:List Int}
theorem saysM_skip {els:Bool}{i:Nat}:∀{a b:List RuleP},(∀r∈a,¬metM has pts r i)→saysM has pts els i (a++b)=saysM has pts els i b
 | [],_,_=>rfl
 | r::a,b,h=>by
  rw[List.cons_append,saysM,if_neg (h r (List.mem_cons_self ..))];exact saysM_skip fun x hx=>h x (List.mem_cons_of_mem _ hx)
theorem saysM_at {els:Bool}{i k:Nat}{l:List RuleP}{r:RuleP}(hk:l[k]?=some r)(hr:metM has pts r i)(hno:∀x∈l.take k,¬metM has pts x i):saysM has pts els i l=r.brk:=by
 obtain⟨hlt,he⟩:=List.getElem?_eq_some_iff.1 hk;have e:l=l.take k++(r::l.drop (k+1)):=by
  rw[←he,←List.drop_eq_getElem_cons hlt,List.take_append_drop]
 rw[e,saysM_skip hno,saysM,if_pos hr]
theorem saysM_none {els:Bool}{i:Nat}{l:List RuleP}(hno:∀x∈l,¬metM has pts x i):saysM has pts els i l=els:=by
 have:=saysM_skip (els:=els) (b:=[]) hno;rw[List.append_nil]at this;rw[this,saysM]
theorem standsM_img {x:PatP}{i:Nat}{back:Bool}(hi:i≤pts.length):0<(imgM pts.length (Rch has pts back x) [i]).length↔standsM has pts x i back:=by
 rw[List.length_pos_iff_exists_mem];constructor
 ·rintro⟨j,hj⟩;obtain⟨_,k,hk,h⟩:=imgM_mem.1 hj;rw[List.mem_singleton]at hk;subst hk;exact⟨j,h⟩
 ·rintro⟨j,h⟩;exact⟨j,imgM_mem.2 ⟨rch_le x hi h,i,List.mem_singleton.2 rfl,h⟩⟩
end
end Cae
namespace Go.Proofs.YtledlfbbebodgaaGreatDoor
open Go.Vc Go.Proofs Go.RowKit Cae
attribute [local irreducible] wpL callK valK unitK runK Fun Sl Vc.Own vc vcOps opK pureK
theorem stands_c (x:PatP)(hok:PatOk x)(hpn:wd x≤100000)(nm:NamesP)(hr:RightN nm)(us:List U)(hlen:us.length≤1000)(i:Nat)(hi:i≤us.length)(back:Bool)(X:Nat→Prop)(v lv:Value)(mb:Nat)(w:World)(hV:PatV X w v x)(hN:NamV X w mb nm)(hU:Sl X 3 (En encU) w lv us) :
  Fun Tryz.prog 22 [v,.map (some mb),lv,.int .i64 i,.bool back] w fun r w'=>(∃b:Bool,r=.bool b∧(b=true↔standsM (hasN nm) (ptsU us) x i back))∧Below w.heap.size w w':=by
 obtain⟨la,lc,rfl,hlc⟩:=hU.shape;refine fun_of_vc Tryz.func22 rfl (by kernel_rfl) [10] rfl ?_;push_cast -dsimp(maxSteps:=4000000) [Tryz.ntmps22];refine⟨fun _=>⟨fun hgt=>by omega,fun _=>?_⟩,fun hneg=>by omega⟩;push_cast -dsimp;refine boxK_of ?_;intro w1 hw1;have hw1:New w w1 106 [.slice la us.length lc,.map (some mb),.bool back]:=hw1;have z1:=hw1.size;push_cast -dsimp
 refine rowK elI_53 rfl rfl (by omega) ?_;intro w2 hw2;have z2:=hw2.size;have hb12:=hw2.below;have hbw2:=hw1.below.trans (hb12.mono (by omega));have hR:Mr X w2 w.heap.size mb us nm back:=⟨⟨_,hw1.blk.below hb12 (by omega),hU.below hbw2⟩,hN.below hbw2,hr,hlen⟩;push_cast -dsimp
 have hO2:Vc.Own w1.heap.size 3 1 encN w2 (.slice (some ⟨w1.heap.size,0,none⟩) 1 1) [i]:=hw2.own (by rfl) rfl (fun _=>rfl) (by omega) (by omega);refine callK_of (all_c x hok hpn _ w2 w.heap.size mb us nm back hR v (hV.below hbw2) _ [i] (hO2.sl.weaken (fun _ h=>h.elim)) hO2.nilArg (by simp) (by simpa using hi)) ?_;rintro r w3 ⟨hO,hb3⟩;have z3:=hb3.size;obtain⟨oa,oc,rfl⟩:=hO.slice
 have hS:=standsM_img (has:=hasN nm) (x:=x) (back:=back) (show i≤(ptsU us).length by rw[ptsU_len];exact hi);rw[ptsU_len]at hS;push_cast -dsimp;refine⟨⟨_,rfl,?_⟩,hbw2.trans (hb3.mono (by omega))⟩;rw[←hS,decide_eq_true_iff];omega
theorem metFn_c (c:RuleP)(hok:PatOk c.before∧PatOk c.after)(hpn:wd c.before≤100000∧wd c.after≤100000)(nm:NamesP)(hr:RightN nm)(us:List U)(hlen:us.length≤1000)(i:Nat)(hi:i≤us.length)(X:Nat→Prop)(x1 x2:Nat)(lv:Value)(mb nb lb ib:Nat)(w:World)
  (h1:PatV X w (ptrP x1) c.before) (h2:PatV X w (ptrP x2) c.after) (hN:NamV X w mb nm) (hU:Sl X 3 (En encU) w lv us) (cn:w.cell? ⟨nb,0,none⟩=some (.map (some mb))) (cl:w.cell? ⟨lb,0,none⟩=some lv) (ci:w.cell? ⟨ib,0,none⟩=some (.int .i64 i)) :
  Fun Tryz.prog 45 [.agg #[.int .i64 c.pos,.bool c.brk,.pointer (some ⟨x1,0,none⟩),.pointer (some ⟨x2,0,none⟩)],.pointer (some ⟨nb,0,none⟩),.pointer (some ⟨lb,0,none⟩),.pointer (some ⟨ib,0,none⟩)] w fun r w'=>(∃b:Bool,r=.bool b∧(b=true↔metM (hasN nm) (ptsU us) c i))∧Below w.heap.size w w':=by
 refine fun_of_vc Tryz.func45 rfl (by kernel_rfl) [5] rfl ?_;push_cast -dsimp(maxSteps:=4000000) [Tryz.ntmps45];refine boxK_of ?_;intro w1 hw1;have hw1:New w w1 50 [.int .i64 c.pos,.bool c.brk,.pointer (some ⟨x1,0,none⟩),.pointer (some ⟨x2,0,none⟩)]:=hw1;have z1:=hw1.size;have hb1:=hw1.below;have R1:=hw1.blk;have e2:w1.cell? ⟨w.heap.size,2,none⟩=some (.pointer (some ⟨x1,0,none⟩)):=R1.cell rfl
 have cn1:w1.cell? ⟨nb,0,none⟩=some (.map (some mb)):=(hb1.cell (World.block_lt_of_cell? w _ cn)).trans cn;have cl1:w1.cell? ⟨lb,0,none⟩=some lv:=(hb1.cell (World.block_lt_of_cell? w _ cl)).trans cl;have ci1:w1.cell? ⟨ib,0,none⟩=some (.int .i64 i):=(hb1.cell (World.block_lt_of_cell? w _ ci)).trans ci;push_cast -dsimp[e2,cn1,cl1,ci1]
 refine callK_of (stands_c c.before hok.1 hpn.1 nm hr us hlen i hi true X _ lv mb w1 (h1.below hb1) (hN.below hb1) (hU.below hb1)) ?_;rintro _ w2 ⟨⟨b,rfl,hb⟩,hb2⟩;have z2:=hb2.size;have hbw2:=hb1.trans (hb2.mono (by omega));cases b with
 | false =>
  push_cast -dsimp;refine⟨⟨false,rfl,?_⟩,hbw2⟩;constructor
  ·intro h;cases h
  ·intro h;have:=hb.2 h.1;cases this
 | true =>
  have e3:w2.cell? ⟨w.heap.size,3,none⟩=some (.pointer (some ⟨x2,0,none⟩)):=(R1.below hb2 (by omega)).cell rfl;have cn2:w2.cell? ⟨nb,0,none⟩=some (.map (some mb)):=(hb2.cell (World.block_lt_of_cell? w1 _ cn1)).trans cn1;have cl2:w2.cell? ⟨lb,0,none⟩=some lv:=(hb2.cell (World.block_lt_of_cell? w1 _ cl1)).trans cl1
  have ci2:w2.cell? ⟨ib,0,none⟩=some (.int .i64 i):=(hb2.cell (World.block_lt_of_cell? w1 _ ci1)).trans ci1;push_cast -dsimp[e3,cn2,cl2,ci2];refine callK_of (stands_c c.after hok.2 hpn.2 nm hr us hlen i hi false X _ lv mb w2 (h2.below hbw2) (hN.below hbw2) (hU.below hbw2)) ?_;rintro _ w3 ⟨⟨b',rfl,hb'⟩,hb3⟩;push_cast -dsimp;refine⟨⟨_,rfl,?_⟩,hbw2.trans (hb3.mono (by omega))⟩;rw[hb']
  exact⟨fun h=>⟨hb.1 rfl,h⟩,fun h=>h.2⟩
theorem ruleIdx_c (l:List RuleP)(hl:l.length≤1000000)(hok:∀c∈l,PatOk c.before∧PatOk c.after)(hpn:∀c∈l,wd c.before≤100000∧wd c.after≤100000)(nm:NamesP)(hr:RightN nm)(us:List U)(hlen:us.length≤1000)(i:Nat)(hi:i≤us.length)(X:Nat→Prop)(rv lv:Value)(rs:List (Nat×Bool×Nat×Nat))(mb nb lb ib:Nat)(w:World)
  (hrs:Sl X 4 (En encRu) w rv rs) (hR:All2 (RulR X w) rs l) (hN:NamV X w mb nm) (hU:Sl X 3 (En encU) w lv us) (cn:w.cell? ⟨nb,0,none⟩=some (.map (some mb))) (cl:w.cell? ⟨lb,0,none⟩=some lv) (ci:w.cell? ⟨ib,0,none⟩=some (.int .i64 i)) :
  Fun Tryz.prog 44 [rv,.func (.func 45) #[] #[.pointer (some ⟨nb,0,none⟩),.pointer (some ⟨lb,0,none⟩),.pointer (some ⟨ib,0,none⟩)]] w fun r w' =>
   ((∃(k:Nat) (c:RuleP),r=.int .i64 k∧l[k]?=some c∧metM (hasN nm) (ptsU us) c i∧∀d∈l.take k,¬metM (hasN nm) (ptsU us) d i)∨(r=.int .i64 (-1)∧∀d∈l,¬metM (hasN nm) (ptsU us) d i))∧Below w.heap.size w w':=by
 have hrl:=All2.len hR;obtain⟨ra,rc,rfl,hrc⟩:=hrs.shape;refine fun_of_vc Tryz.func44 rfl (by kernel_rfl) [4] rfl ?_;push_cast -dsimp(maxSteps:=4000000) [Tryz.ntmps44];refine wpL_loop [4,5,8,9,10,11,12,13,14,15,16,17,18] (fun z wx=>∃(k:Nat),z 8=.int .i64 k∧k≤l.length∧(∀d∈l.take k,¬metM (hasN nm) (ptsU us) d i)∧Below w.heap.size w wx) (fun z _=>l.length-(intOf (z 8)).toNat) ?_ ?_
 ·exact⟨0,rfl,Nat.zero_le _,by simp,Below.refl _ _⟩
 ·intro z wx hI;obtain⟨k,h8,hk,hno,hbx⟩:=hI;have zx:=hbx.size;push_cast -dsimp[h8];refine⟨fun hlt=>?_,fun hge=>?_⟩
  ·obtain⟨c,hc,hcm,_,ht⟩:=lt_get (l:=l) (i:=k) (by omega);obtain⟨x,hx,hxp,hxb,hx1,hx2⟩:=all2_nth hR hc;obtain⟨xp,xb,x1,x2⟩:=x;simp only at hxp hxb hx1 hx2;subst hxp;subst hxb;obtain⟨b1,o,rfl,hnb,hcell⟩:=(hrs.below hbx).get hx
   have c4:cellsAt wx ⟨b1,o+k*4,none⟩ 0 4=some [.int .i64 c.pos,.bool c.brk,.pointer (some ⟨x1,0,none⟩),.pointer (some ⟨x2,0,none⟩)]:=cellsAt_of _ 0 (fun j u hu=>by simpa[encRu,ptrP] using hcell j u hu);push_cast -dsimp[c4];refine⟨⟨by omega,by omega⟩,?_⟩
   refine callK_of (metFn_c c (hok c hcm) (hpn c hcm) nm hr us hlen i hi X x1 x2 lv mb nb lb ib wx (hx1.below hbx) (hx2.below hbx) (hN.below hbx) (hU.below hbx) ((hbx.cell (World.block_lt_of_cell? w _ cn)).trans cn) ((hbx.cell (World.block_lt_of_cell? w _ cl)).trans cl) ((hbx.cell (World.block_lt_of_cell? w _ ci)).trans ci)) ?_;rintro _ w1 ⟨⟨b,rfl,hb⟩,hb1⟩;have hB1:=hbx.trans (hb1.mono zx)
   cases b with
   | true =>
    push_cast -dsimp;exact⟨.inl ⟨k,c,rfl,hc,hb.1 rfl,hno⟩,hB1⟩
   | false =>
    push_cast -dsimp;refine⟨⟨by omega,by omega⟩,⟨k+1,rfl,by omega,?_,hB1⟩,by rw[h8];simp only[intOf];omega⟩;intro y hy;rw[ht,List.mem_append,List.mem_singleton]at hy;rcases hy with hy|rfl
    ·exact hno y hy
    ·intro h;have:=hb.2 h;cases this
  ·rw[List.take_of_length_le (by omega)]at hno;exact⟨.inr hno,hbx⟩
end Go.Proofs.YtledlfbbebodgaaGreatDoor
end
section
namespace Go.Proofs.YtledlfbbebodgaaGreatDoor
open Go.Vc Go.Proofs Go.RowKit Cae
attribute [local irreducible] wpL callK valK unitK runK Fun Sl Vc.Own vc vcOps opK pureK
def BrkR (B:Nat)(f:FileP)(us:List U)(r:Value)(w:World):Prop:=match chkS f with
 | some e=>∃v,r=.tuple #[.slice none 0 0,v]∧ErrAt B (some e) v w
 | none=>∃nm v,namesS [] f.classes=.ok nm∧r=.tuple #[v,.nilIface]∧Vc.Own B 3 1 encN w v (breaksM (hasN nm) (ptsU us) f.rules f.els)
noncomputable def upTo (nm:NamesP)(us:List U)(rules:List RuleP)(els:Bool)(i:Nat):List Nat:=(List.range i).filter (isM (hasN nm) (ptsU us) rules els)
theorem upTo_succ (nm:NamesP)(us:List U)(rules:List RuleP)(els:Bool)(i:Nat):upTo nm us rules els (i+1)=upTo nm us rules els i++if isM (hasN nm) (ptsU us) rules els i then [i] else []:=by
 unfold upTo;rw[List.range_succ,List.filter_append];congr 1;by_cases h:isM (hasN nm) (ptsU us) rules els i=true
 ·rw[if_pos h,List.filter_cons_of_pos h,List.filter_nil]
 ·rw[if_neg h,List.filter_cons_of_neg h,List.filter_nil]
theorem upTo_len (nm:NamesP)(us:List U)(rules:List RuleP)(els:Bool)(i:Nat):(upTo nm us rules els i).length≤i:=by
 have:=List.length_filter_le (isM (hasN nm) (ptsU us) rules els) (List.range i);rw[List.length_range]at this;exact this
theorem NamV.weak {X X':Nat→Prop}{w:World}{b:Nat}{nm:NamesP}(h:NamV X w b nm)(hX:∀b,X' b→X b):NamV X' w b nm:=by
 obtain⟨kvs,h2,h3⟩:=h;exact⟨kvs,h2,h3.imp fun a b h=>⟨h.1,h.2.1.weaken hX,h.2.2⟩⟩
def cntOf (v:Value)(w:World):Nat:=match v with
 | .pointer (some a)=>match w.cell? a with
  | some (.int _ n)=>n.toNat
  | _=>0
 | _=>0
theorem cntOf_is {v:Value}{w:World}{a:Addr}{i:Nat}{k:IntKind}(h:v=.pointer (some a))(hc:w.cell? a=some (.int k i)):cntOf v w=i:=by
 subst h;simp only[cntOf,hc,Int.toNat_natCast]
theorem chkS_names {f:FileP}(h:chkS f=none):∃nm,namesS [] f.classes=.ok nm:=by
 unfold chkS at h;cases hn:namesS [] f.classes with
 | ok nm=>exact⟨nm,rfl⟩
 | error e=>rw[hn]at h;cases h
theorem breaks_c (f : FileP) (hok : FileOk f) (hpn : PnOk f) (hlc : f.classes.length ≤ 1000000) (hlr : f.rules.length ≤ 1000000) (us : List U) (hlen : us.length ≤ 1000) (X : Nat → Prop) (v lv : Value) (w : World) (hv : FileV X w v f) (hU : Sl X 3 (En encU) w lv us) :
    Fun Tryz.prog 15 [v, lv] w fun r w' => BrkR w.heap.size f us r w' ∧ Below w.heap.size w w' := by
  have hv0 := hv
  obtain ⟨cv, rv, cs, rs, rfl, hcs, hrs, hC, hR⟩ := hv
  obtain ⟨ca, cc, rfl, hcc⟩ := hcs.shape
  obtain ⟨ra, rc, rfl, hrc⟩ := hrs.shape
  obtain ⟨la, lc, rfl, hlc'⟩ := hU.shape
  have hrl := All2.len hR
  refine fun_of_vc Tryz.func15 rfl (by kernel_rfl) [4, 5] rfl ?_
  push_cast -dsimp (maxSteps := 4000000) [Tryz.ntmps15]
  refine boxK_of ?_
  intro w1 hw1
  have hw1 : New w w1 26 [.slice ca cs.length cc, .slice ra rs.length rc, .bool f.els] := hw1
  have z1 := hw1.size
  push_cast -dsimp
  refine boxK_of ?_
  intro w2 hw2
  have hw2 : New w1 w2 51 [.slice la us.length lc] := hw2
  have z2 := hw2.size
  have hbw2 := hw1.below.trans (hw2.below.mono (by omega))
  have B2 := hw1.blk.below hw2.below (by omega)
  have d0 : cellsAt w2 ⟨w.heap.size, 0, none⟩ 0 3 = some [.slice ca cs.length cc, .slice ra rs.length rc, .bool f.els] := B2.cellsAt
  push_cast -dsimp [d0]
  refine callK_of (check_c f hok hpn hlc hlr X _ w2 (hv0.below hbw2)) ?_
  rintro r w3 ⟨hE, hb3⟩
  have z3 := hb3.size
  have hbw3 := hbw2.trans (hb3.mono (by omega))
  cases hchk : chkS f with
  | some e =>
    rw [hchk] at hE
    have hE0 := hE
    obtain ⟨c, e⟩ := e
    obtain ⟨eb, heb, rfl, hEB⟩ := hE
    push_cast -dsimp
    refine ⟨?_, hbw3⟩
    unfold BrkR
    rw [hchk]
    exact ⟨_, rfl, hE0.mono (by omega)⟩
  | none =>
    rw [hchk] at hE
    have hE : r = .nilIface := hE
    subst hE
    have hnm := chkS_names hchk
    obtain ⟨nm, hnm⟩ := hnm
    have B3 := B2.below hb3 (by omega)
    have d3 : cellsAt w3 ⟨w.heap.size, 0, none⟩ 0 3 = some [.slice ca cs.length cc, .slice ra rs.length rc, .bool f.els] := B3.cellsAt
    push_cast -dsimp [d3]
    refine callK_of (names_c f hok.1 hlc X _ w3 (hv0.below hbw3)) ?_
    rintro r w4 ⟨hN, hb4⟩
    have z4 := hb4.size
    have hbw4 := hbw3.trans (hb4.mono (by omega))
    unfold NamesRes at hN
    rw [hnm] at hN
    obtain ⟨mb, hmb, rfl, hNV, hRN⟩ := hN
    push_cast -dsimp
    refine allocK (z := [.map none]) (by kernel_rfl) ?_
    intro w5 hw5
    have z5 := hw5.size
    push_cast -dsimp
    refine storeK_of hw5.blk (by simp) rfl ?_
    intro w6 hw6
    have z6 := hw6.size
    have hb46 : Below w4.heap.size w4 w6 := hw5.below.trans (hw6.kept.below (by omega) (fun i h => by omega))
    have N6 : Blk w6 w4.heap.size 29 [.map (some mb)] := hw6.blk
    push_cast -dsimp
    refine allocK (z := [.int .i64 0]) (by kernel_rfl) ?_
    intro w7 hw7
    have z7 := hw7.size
    push_cast -dsimp
    refine storeK_of hw7.blk (by simp) rfl ?_
    intro w8 hw8
    have z8 := hw8.size
    have hb68 : Below w6.heap.size w6 w8 := hw7.below.trans (hw8.kept.below (by omega) (fun i h => by omega))
    have hb48 := hb46.trans (hb68.mono (by omega))
    have hbw8 := hbw4.trans (hb48.mono (by omega))
    have N8 := N6.below hb68 (by omega)
    have I8 : Blk w8 w6.heap.size 3 [.int .i64 0] := hw8.blk
    have F8 := (B3.below hb4 (by omega)).below hb48 (by omega)
    have L8 : Blk w8 w1.heap.size 51 [.slice la us.length lc] := ((hw2.blk.below hb3 (by omega)).below hb4 (by omega)).below hb48 (by omega)
    have hNV8 := hNV.below hb48
    have hXn : ∃ Xn : Nat → Prop, Xn = (fun b => X b ∧ b < w3.heap.size) := ⟨_, rfl⟩
    obtain ⟨Xn, hXn⟩ := hXn
    rw [← hXn] at hNV8
    push_cast -dsimp
    have hbase : w8.heap.size = w6.heap.size + 1 := by omega
    refine wpL_loop [9, 10, 11, 12, 26, 27, 28, 29, 30, 31, 32, 33, 34, 35, 36, 37, 38, 39, 40, 41, 42, 43, 44, 45, 46, 47, 48, 49, 50, 51, 52, 53, 54, 55, 56, 57, 58, 59, 60, 61, 62, 63, 64, 65, 66] (fun z wx => ∃ (i ib : Nat) (ov : Value), z 10 = .pointer (some ⟨ib, 0, none⟩) ∧ z 9 = ov ∧ i ≤ us.length + 1 ∧ (us = [] → i = 0) ∧ Blk wx ib 3 [.int .i64 i] ∧ Vc.Own w8.heap.size 3 1 encN wx ov (upTo nm us f.rules f.els i) ∧ (∀ g, ov.ownBlock = some g → g ≠ ib) ∧ Below w8.heap.size w8 wx) (fun z wx => us.length + 1 - cntOf (z 10) wx) ?_ ?_
    · exact ⟨0, w6.heap.size, _, rfl, rfl, by omega, fun _ => rfl, I8, Vc.Own.nil (enc := encN) _ _ (fun _ => rfl) _, (fun g h => by cases h), Below.refl _ _⟩
    · intro z wx hI
      obtain ⟨i, ib, ov, h10, h9, hi, hnil, hIB, hO, hne, hb8⟩ := hI
      have zx := hb8.size
      have hbx := hbw8.trans (hb8.mono (by omega))
      have hul := upTo_len nm us f.rules f.els i
      obtain ⟨oa, oc, rfl⟩ := hO.slice
      have Fx := F8.below hb8 (by omega)
      have Lx := L8.below hb8 (by omega)
      have Nx := N8.below hb8 (by omega)
      have c0 : wx.cell? ⟨ib, 0, none⟩ = some (.int .i64 i) := hIB.cell rfl
      have cl : wx.cell? ⟨w1.heap.size, 0, none⟩ = some (.slice la us.length lc) := Lx.cell rfl
      have cn : wx.cell? ⟨w4.heap.size, 0, none⟩ = some (.map (some mb)) := Nx.cell rfl
      have f1 : wx.cell? ⟨w.heap.size, 1, none⟩ = some (.slice ra rs.length rc) := Fx.cell rfl
      have hcnt : cntOf (z 10) wx = i := cntOf_is h10 c0
      rw [hcnt]
      push_cast -dsimp [h10, h9, c0, cl]
      have hdone : (us = [] ∨ us.length < i) → BrkR w.heap.size f us (.tuple #[.slice oa (upTo nm us f.rules f.els i).length oc, .nilIface]) wx := fun h => by
        unfold BrkR
        rw [hchk]
        refine ⟨nm, _, hnm, rfl, ?_⟩
        have e : upTo nm us f.rules f.els i = breaksM (hasN nm) (ptsU us) f.rules f.els := by
          unfold breaksM upTo
          by_cases h0 : us = []
          · rw [if_pos (by rw [h0]; rfl), hnil h0]
            rfl
          · rw [if_neg (by unfold ptsU; simpa using h0), ptsU_len]
            have : i = us.length + 1 := by
              rcases h with h | h
              · exact absurd h h0
              · omega
            rw [this]
        rw [← e]
        exact hO.mono (by omega)
      refine ⟨fun hle => ⟨fun hpos => ?_, fun hzero => ?_⟩, fun hgt => ?_⟩
      · have hle' : i ≤ us.length := by omega
        have hne0 : us ≠ [] := fun h => by rw [h] at hpos; simp at hpos
        have hXm : ∀ b, (fun _ : Nat => False) b → X b := fun _ h => h.elim
        have hRx : All2 (RulR (fun _ => False) wx) rs f.rules := hR.imp fun a b h => ⟨h.1, h.2.1, PatV.weak (h.2.2.1.below hbx) hXm, PatV.weak (h.2.2.2.below hbx) hXm⟩
        have hNx : NamV (fun _ => False) wx mb nm := (hNV.below (hb48.trans (hb8.mono (by omega)))).weak (fun _ h => h.elim)
        push_cast -dsimp [f1]
        refine callK_of (ruleIdx_c f.rules hlr hok.2 hpn nm hRN us hlen i hle' _ _ (.slice la us.length lc) rs mb w4.heap.size w1.heap.size ib wx ((hrs.below hbx).weaken hXm) hRx hNx ((hU.below hbx).weaken hXm) cn cl c0) ?_
        rintro r wy ⟨hK, hby⟩
        have zy := hby.size
        have Fy := Fx.below hby (by omega)
        have Ly := Lx.below hby (by omega)
        have IBy := hIB.below hby hIB.lt
        have hOy := hO.below hby
        have hbwy := hbx.trans (hby.mono (by omega))
        have hb8y := hb8.trans (hby.mono (by omega))
        have e1 : wy.cell? ⟨w.heap.size, 1, none⟩ = some (.slice ra rs.length rc) := Fy.cell rfl
        have e2 : wy.cell? ⟨w.heap.size, 2, none⟩ = some (.bool f.els) := Fy.cell rfl
        have e3 : wy.cell? ⟨w1.heap.size, 0, none⟩ = some (.slice la us.length lc) := Ly.cell rfl
        have e4 : wy.cell? ⟨ib, 0, none⟩ = some (.int .i64 i) := IBy.cell rfl
        rcases hK with ⟨k, c, rfl, hc, hmet, hno⟩ | ⟨rfl, hno⟩
        · have hsay : isM (hasN nm) (ptsU us) f.rules f.els i = (c.brk || decide (i = 0) || decide (i = us.length)) := by
            unfold isM
            rw [saysM_at hc hmet hno, ptsU_len]
          obtain ⟨x, hx, hxp, hxb, hx1, hx2⟩ := all2_nth hR hc
          obtain ⟨xp, xb, x1, x2⟩ := x
          simp only at hxp hxb hx1 hx2
          subst hxp; subst hxb
          obtain ⟨b1, o, rfl, hnb, hcell⟩ := (hrs.below hbwy).get hx
          have c4 : wy.cell? ⟨b1, o + k * 4 + 1, none⟩ = some (.bool c.brk) := by simpa [encRu] using hcell 1 _ rfl
          have hkl := (List.getElem?_eq_some_iff.1 hx).1
          cases hbk : (c.brk) with
          | true =>
            rw [hbk] at hsay
            (rw [hbk] at c4); push_cast -dsimp [e1, e2, e3, e4, c4]; refine ⟨fun _ => ⟨⟨by omega, by omega⟩, ?_⟩, fun h => by omega⟩
            -- by simp: the place is a break
            have hsu := upTo_succ nm us f.rules f.els i
            rw [hsay, if_pos (by simp)] at hsu
            refine rowK elI_53 rfl rfl (by omega) ?_
            intro wr hwr
            have zr := hwr.size
            push_cast -dsimp
            refine appendK2 (base := w8.heap.size) [i] (enc := encN) elI_53 (hOy.new hwr) (by rfl) (fun j u hu => by rw [Nat.zero_add]; exact hwr.cell hu) (by simp [encN, Value.oneCell']) (by simp only [List.length_cons, List.length_nil]; omega) (by omega) ?_
            intro vq wq hOq hgq hnq
            have hkq : Kept (fun j => (Value.slice oa (upTo nm us f.rules f.els i).length oc).ownBlock = some j) wr wq := Kept.grown hgq (fun _ h => h)
            have IBq := (IBy.below hwr.below IBy.lt).kept hkq (fun h => hne _ h rfl)
            have hbq : Below w8.heap.size w8 wq := hb8y.trans ((hwr.below.mono (by omega)).trans (hkq.below (by omega) (fun g h => (hO.block g h).1)))
            rw [← hsu] at hOq
            -- wq: the world; hOq: Vc.Own of the longer row; IBq: the counter's block; hbq: Below w8 wq
            have hbS := hbq
            have zS := hbS.size
            have hOS := hOq
            have cS : (wq).cell? ⟨ib, 0, none⟩ = some (.int .i64 i) := (IBq).cell rfl
            push_cast -dsimp [cS]
            refine allocK (z := [.int .i64 0]) (by kernel_rfl) ?_
            intro wa hwa
            have za := hwa.size
            push_cast -dsimp
            refine storeK_of hwa.blk (by simp) rfl ?_
            intro wb hwb
            have zb := hwb.size
            have cb : wb.cell? ⟨(wq).heap.size, 0, none⟩ = some (.int .i64 i) := hwb.blk.cell rfl
            push_cast -dsimp [cb]
            refine ⟨⟨by omega, by omega⟩, ?_⟩
            refine storeK_of hwb.blk (by simp) rfl ?_
            intro wc hwc
            have zc := hwc.size
            have hbac : Below (wq).heap.size (wq) wc := hwa.below.trans ((hwb.kept.below (by omega) (fun i h => by omega)).trans (hwc.kept.below (by omega) (fun i h => by omega)))
            have IC : Blk wc (wq).heap.size 3 [.int .i64 ((i + 1 : Nat) : Int)] := hwc.blk
            have hcn : cntOf (.pointer (some ⟨(wq).heap.size, 0, none⟩)) wc = i + 1 := cntOf_is rfl (IC.cell rfl)
            push_cast -dsimp
            refine ⟨⟨i + 1, (wq).heap.size, _, rfl, rfl, by omega, fun h => absurd h hne0, IC, hOS.below hbac, (fun g hg => by have := hOS.block g hg; omega), hbS.trans (hbac.mono (by omega))⟩, ?_⟩
            show us.length + 1 - cntOf (.pointer (some ⟨(wq).heap.size, 0, none⟩)) wc < us.length + 1 - i
            rw [hcn]
            omega
          | false =>
            rw [hbk] at hsay
            (rw [hbk] at c4); push_cast -dsimp [e1, e2, e3, e4, c4]; refine ⟨fun _ => ⟨⟨by omega, by omega⟩, ?_⟩, fun h => by omega⟩
            refine ⟨fun h0 => ⟨fun h1 => ?_, fun h1 => ?_⟩, fun h0 => ?_⟩
            · have h1' : i = us.length := by omega
              -- by simp [h1']: the place is a break
              have hsu := upTo_succ nm us f.rules f.els i
              rw [hsay, if_pos (by simp [h1'])] at hsu
              refine rowK elI_53 rfl rfl (by omega) ?_
              intro wr hwr
              have zr := hwr.size
              push_cast -dsimp
              refine appendK2 (base := w8.heap.size) [i] (enc := encN) elI_53 (hOy.new hwr) (by rfl) (fun j u hu => by rw [Nat.zero_add]; exact hwr.cell hu) (by simp [encN, Value.oneCell']) (by simp only [List.length_cons, List.length_nil]; omega) (by omega) ?_
              intro vq wq hOq hgq hnq
              have hkq : Kept (fun j => (Value.slice oa (upTo nm us f.rules f.els i).length oc).ownBlock = some j) wr wq := Kept.grown hgq (fun _ h => h)
              have IBq := (IBy.below hwr.below IBy.lt).kept hkq (fun h => hne _ h rfl)
              have hbq : Below w8.heap.size w8 wq := hb8y.trans ((hwr.below.mono (by omega)).trans (hkq.below (by omega) (fun g h => (hO.block g h).1)))
              rw [← hsu] at hOq
              -- wq: the world; hOq: Vc.Own of the longer row; IBq: the counter's block; hbq: Below w8 wq
              have hbS := hbq
              have zS := hbS.size
              have hOS := hOq
              have cS : (wq).cell? ⟨ib, 0, none⟩ = some (.int .i64 i) := (IBq).cell rfl
              push_cast -dsimp [cS]
              refine allocK (z := [.int .i64 0]) (by kernel_rfl) ?_
              intro wa hwa
              have za := hwa.size
              push_cast -dsimp
              refine storeK_of hwa.blk (by simp) rfl ?_
              intro wb hwb
              have zb := hwb.size
              have cb : wb.cell? ⟨(wq).heap.size, 0, none⟩ = some (.int .i64 i) := hwb.blk.cell rfl
              push_cast -dsimp [cb]
              refine ⟨⟨by omega, by omega⟩, ?_⟩
              refine storeK_of hwb.blk (by simp) rfl ?_
              intro wc hwc
              have zc := hwc.size
              have hbac : Below (wq).heap.size (wq) wc := hwa.below.trans ((hwb.kept.below (by omega) (fun i h => by omega)).trans (hwc.kept.below (by omega) (fun i h => by omega)))
              have IC : Blk wc (wq).heap.size 3 [.int .i64 ((i + 1 : Nat) : Int)] := hwc.blk
              have hcn : cntOf (.pointer (some ⟨(wq).heap.size, 0, none⟩)) wc = i + 1 := cntOf_is rfl (IC.cell rfl)
              push_cast -dsimp
              refine ⟨⟨i + 1, (wq).heap.size, _, rfl, rfl, by omega, fun h => absurd h hne0, IC, hOS.below hbac, (fun g hg => by have := hOS.block g hg; omega), hbS.trans (hbac.mono (by omega))⟩, ?_⟩
              show us.length + 1 - cntOf (.pointer (some ⟨(wq).heap.size, 0, none⟩)) wc < us.length + 1 - i
              rw [hcn]
              omega
            · have h0' : i ≠ 0 := by omega
              have h1' : i ≠ us.length := by omega
              -- by simp [h0', h1']: the place is no break
              have hsu := upTo_succ nm us f.rules f.els i
              rw [hsay, if_neg (by simp [h0', h1']), List.append_nil] at hsu
              have hOy' : Vc.Own w8.heap.size 3 1 encN wy (.slice oa (upTo nm us f.rules f.els i).length oc) (upTo nm us f.rules f.els (i + 1)) := by rw [hsu]; exact hOy
              -- wy: the world; hOy': Vc.Own of the longer row; IBy: the counter's block; hb8y: Below w8 wy
              have hbS := hb8y
              have zS := hbS.size
              have hOS := hOy'
              have cS : (wy).cell? ⟨ib, 0, none⟩ = some (.int .i64 i) := (IBy).cell rfl
              skip
              refine allocK (z := [.int .i64 0]) (by kernel_rfl) ?_
              intro wa hwa
              have za := hwa.size
              push_cast -dsimp
              refine storeK_of hwa.blk (by simp) rfl ?_
              intro wb hwb
              have zb := hwb.size
              have cb : wb.cell? ⟨(wy).heap.size, 0, none⟩ = some (.int .i64 i) := hwb.blk.cell rfl
              push_cast -dsimp [cb]
              refine ⟨⟨by omega, by omega⟩, ?_⟩
              refine storeK_of hwb.blk (by simp) rfl ?_
              intro wc hwc
              have zc := hwc.size
              have hbac : Below (wy).heap.size (wy) wc := hwa.below.trans ((hwb.kept.below (by omega) (fun i h => by omega)).trans (hwc.kept.below (by omega) (fun i h => by omega)))
              have IC : Blk wc (wy).heap.size 3 [.int .i64 ((i + 1 : Nat) : Int)] := hwc.blk
              have hcn : cntOf (.pointer (some ⟨(wy).heap.size, 0, none⟩)) wc = i + 1 := cntOf_is rfl (IC.cell rfl)
              push_cast -dsimp
              refine ⟨⟨i + 1, (wy).heap.size, _, rfl, rfl, by omega, fun h => absurd h hne0, IC, hOS.below hbac, (fun g hg => by have := hOS.block g hg; omega), hbS.trans (hbac.mono (by omega))⟩, ?_⟩
              show us.length + 1 - cntOf (.pointer (some ⟨(wy).heap.size, 0, none⟩)) wc < us.length + 1 - i
              rw [hcn]
              omega
            · have h0' : i = 0 := by omega
              -- by simp [h0']: the place is a break
              have hsu := upTo_succ nm us f.rules f.els i
              rw [hsay, if_pos (by simp [h0'])] at hsu
              refine rowK elI_53 rfl rfl (by omega) ?_
              intro wr hwr
              have zr := hwr.size
              push_cast -dsimp
              refine appendK2 (base := w8.heap.size) [i] (enc := encN) elI_53 (hOy.new hwr) (by rfl) (fun j u hu => by rw [Nat.zero_add]; exact hwr.cell hu) (by simp [encN, Value.oneCell']) (by simp only [List.length_cons, List.length_nil]; omega) (by omega) ?_
              intro vq wq hOq hgq hnq
              have hkq : Kept (fun j => (Value.slice oa (upTo nm us f.rules f.els i).length oc).ownBlock = some j) wr wq := Kept.grown hgq (fun _ h => h)
              have IBq := (IBy.below hwr.below IBy.lt).kept hkq (fun h => hne _ h rfl)
              have hbq : Below w8.heap.size w8 wq := hb8y.trans ((hwr.below.mono (by omega)).trans (hkq.below (by omega) (fun g h => (hO.block g h).1)))
              rw [← hsu] at hOq
              -- wq: the world; hOq: Vc.Own of the longer row; IBq: the counter's block; hbq: Below w8 wq
              have hbS := hbq
              have zS := hbS.size
              have hOS := hOq
              have cS : (wq).cell? ⟨ib, 0, none⟩ = some (.int .i64 i) := (IBq).cell rfl
              push_cast -dsimp [cS]
              refine allocK (z := [.int .i64 0]) (by kernel_rfl) ?_
              intro wa hwa
              have za := hwa.size
              push_cast -dsimp
              refine storeK_of hwa.blk (by simp) rfl ?_
              intro wb hwb
              have zb := hwb.size
              have cb : wb.cell? ⟨(wq).heap.size, 0, none⟩ = some (.int .i64 i) := hwb.blk.cell rfl
              push_cast -dsimp [cb]
              refine ⟨⟨by omega, by omega⟩, ?_⟩
              refine storeK_of hwb.blk (by simp) rfl ?_
              intro wc hwc
              have zc := hwc.size
              have hbac : Below (wq).heap.size (wq) wc := hwa.below.trans ((hwb.kept.below (by omega) (fun i h => by omega)).trans (hwc.kept.below (by omega) (fun i h => by omega)))
              have IC : Blk wc (wq).heap.size 3 [.int .i64 ((i + 1 : Nat) : Int)] := hwc.blk
              have hcn : cntOf (.pointer (some ⟨(wq).heap.size, 0, none⟩)) wc = i + 1 := cntOf_is rfl (IC.cell rfl)
              push_cast -dsimp
              refine ⟨⟨i + 1, (wq).heap.size, _, rfl, rfl, by omega, fun h => absurd h hne0, IC, hOS.below hbac, (fun g hg => by have := hOS.block g hg; omega), hbS.trans (hbac.mono (by omega))⟩, ?_⟩
              show us.length + 1 - cntOf (.pointer (some ⟨(wq).heap.size, 0, none⟩)) wc < us.length + 1 - i
              rw [hcn]
              omega
        · have hel : ∃ el, f.els = el := ⟨_, rfl⟩
          obtain ⟨el, hel⟩ := hel
          have hsay : isM (hasN nm) (ptsU us) f.rules f.els i = (el || decide (i = 0) || decide (i = us.length)) := by
            unfold isM
            rw [saysM_none hno, ptsU_len, hel]
          have e2 : wy.cell? ⟨w.heap.size, 2, none⟩ = some (.bool el) := by rw [← hel]; exact Fy.cell rfl
          cases hbk : (el) with
          | true =>
            rw [hbk] at hsay
            (rw [hbk] at e2); push_cast -dsimp [e1, e2, e3, e4]
            -- by simp: the place is a break
            have hsu := upTo_succ nm us f.rules f.els i
            rw [hsay, if_pos (by simp)] at hsu
            refine rowK elI_53 rfl rfl (by omega) ?_
            intro wr hwr
            have zr := hwr.size
            push_cast -dsimp
            refine appendK2 (base := w8.heap.size) [i] (enc := encN) elI_53 (hOy.new hwr) (by rfl) (fun j u hu => by rw [Nat.zero_add]; exact hwr.cell hu) (by simp [encN, Value.oneCell']) (by simp only [List.length_cons, List.length_nil]; omega) (by omega) ?_
            intro vq wq hOq hgq hnq
            have hkq : Kept (fun j => (Value.slice oa (upTo nm us f.rules f.els i).length oc).ownBlock = some j) wr wq := Kept.grown hgq (fun _ h => h)
            have IBq := (IBy.below hwr.below IBy.lt).kept hkq (fun h => hne _ h rfl)
            have hbq : Below w8.heap.size w8 wq := hb8y.trans ((hwr.below.mono (by omega)).trans (hkq.below (by omega) (fun g h => (hO.block g h).1)))
            rw [← hsu] at hOq
            -- wq: the world; hOq: Vc.Own of the longer row; IBq: the counter's block; hbq: Below w8 wq
            have hbS := hbq
            have zS := hbS.size
            have hOS := hOq
            have cS : (wq).cell? ⟨ib, 0, none⟩ = some (.int .i64 i) := (IBq).cell rfl
            push_cast -dsimp [cS]
            refine allocK (z := [.int .i64 0]) (by kernel_rfl) ?_
            intro wa hwa
            have za := hwa.size
            push_cast -dsimp
            refine storeK_of hwa.blk (by simp) rfl ?_
            intro wb hwb
            have zb := hwb.size
            have cb : wb.cell? ⟨(wq).heap.size, 0, none⟩ = some (.int .i64 i) := hwb.blk.cell rfl
            push_cast -dsimp [cb]
            refine ⟨⟨by omega, by omega⟩, ?_⟩
            refine storeK_of hwb.blk (by simp) rfl ?_
            intro wc hwc
            have zc := hwc.size
            have hbac : Below (wq).heap.size (wq) wc := hwa.below.trans ((hwb.kept.below (by omega) (fun i h => by omega)).trans (hwc.kept.below (by omega) (fun i h => by omega)))
            have IC : Blk wc (wq).heap.size 3 [.int .i64 ((i + 1 : Nat) : Int)] := hwc.blk
            have hcn : cntOf (.pointer (some ⟨(wq).heap.size, 0, none⟩)) wc = i + 1 := cntOf_is rfl (IC.cell rfl)
            push_cast -dsimp
            refine ⟨⟨i + 1, (wq).heap.size, _, rfl, rfl, by omega, fun h => absurd h hne0, IC, hOS.below hbac, (fun g hg => by have := hOS.block g hg; omega), hbS.trans (hbac.mono (by omega))⟩, ?_⟩
            show us.length + 1 - cntOf (.pointer (some ⟨(wq).heap.size, 0, none⟩)) wc < us.length + 1 - i
            rw [hcn]
            omega
          | false =>
            rw [hbk] at hsay
            (rw [hbk] at e2); push_cast -dsimp [e1, e2, e3, e4]
            refine ⟨fun h0 => ⟨fun h1 => ?_, fun h1 => ?_⟩, fun h0 => ?_⟩
            · have h1' : i = us.length := by omega
              -- by simp [h1']: the place is a break
              have hsu := upTo_succ nm us f.rules f.els i
              rw [hsay, if_pos (by simp [h1'])] at hsu
              refine rowK elI_53 rfl rfl (by omega) ?_
              intro wr hwr
              have zr := hwr.size
              push_cast -dsimp
              refine appendK2 (base := w8.heap.size) [i] (enc := encN) elI_53 (hOy.new hwr) (by rfl) (fun j u hu => by rw [Nat.zero_add]; exact hwr.cell hu) (by simp [encN, Value.oneCell']) (by simp only [List.length_cons, List.length_nil]; omega) (by omega) ?_
              intro vq wq hOq hgq hnq
              have hkq : Kept (fun j => (Value.slice oa (upTo nm us f.rules f.els i).length oc).ownBlock = some j) wr wq := Kept.grown hgq (fun _ h => h)
              have IBq := (IBy.below hwr.below IBy.lt).kept hkq (fun h => hne _ h rfl)
              have hbq : Below w8.heap.size w8 wq := hb8y.trans ((hwr.below.mono (by omega)).trans (hkq.below (by omega) (fun g h => (hO.block g h).1)))
              rw [← hsu] at hOq
              -- wq: the world; hOq: Vc.Own of the longer row; IBq: the counter's block; hbq: Below w8 wq
              have hbS := hbq
              have zS := hbS.size
              have hOS := hOq
              have cS : (wq).cell? ⟨ib, 0, none⟩ = some (.int .i64 i) := (IBq).cell rfl
              push_cast -dsimp [cS]
              refine allocK (z := [.int .i64 0]) (by kernel_rfl) ?_
              intro wa hwa
              have za := hwa.size
              push_cast -dsimp
              refine storeK_of hwa.blk (by simp) rfl ?_
              intro wb hwb
              have zb := hwb.size
              have cb : wb.cell? ⟨(wq).heap.size, 0, none⟩ = some (.int .i64 i) := hwb.blk.cell rfl
              push_cast -dsimp [cb]
              refine ⟨⟨by omega, by omega⟩, ?_⟩
              refine storeK_of hwb.blk (by simp) rfl ?_
              intro wc hwc
              have zc := hwc.size
              have hbac : Below (wq).heap.size (wq) wc := hwa.below.trans ((hwb.kept.below (by omega) (fun i h => by omega)).trans (hwc.kept.below (by omega) (fun i h => by omega)))
              have IC : Blk wc (wq).heap.size 3 [.int .i64 ((i + 1 : Nat) : Int)] := hwc.blk
              have hcn : cntOf (.pointer (some ⟨(wq).heap.size, 0, none⟩)) wc = i + 1 := cntOf_is rfl (IC.cell rfl)
              push_cast -dsimp
              refine ⟨⟨i + 1, (wq).heap.size, _, rfl, rfl, by omega, fun h => absurd h hne0, IC, hOS.below hbac, (fun g hg => by have := hOS.block g hg; omega), hbS.trans (hbac.mono (by omega))⟩, ?_⟩
              show us.length + 1 - cntOf (.pointer (some ⟨(wq).heap.size, 0, none⟩)) wc < us.length + 1 - i
              rw [hcn]
              omega
            · have h0' : i ≠ 0 := by omega
              have h1' : i ≠ us.length := by omega
              -- by simp [h0', h1']: the place is no break
              have hsu := upTo_succ nm us f.rules f.els i
              rw [hsay, if_neg (by simp [h0', h1']), List.append_nil] at hsu
              have hOy' : Vc.Own w8.heap.size 3 1 encN wy (.slice oa (upTo nm us f.rules f.els i).length oc) (upTo nm us f.rules f.els (i + 1)) := by rw [hsu]; exact hOy
              -- wy: the world; hOy': Vc.Own of the longer row; IBy: the counter's block; hb8y: Below w8 wy
              have hbS := hb8y
              have zS := hbS.size
              have hOS := hOy'
              have cS : (wy).cell? ⟨ib, 0, none⟩ = some (.int .i64 i) := (IBy).cell rfl
              skip
              refine allocK (z := [.int .i64 0]) (by kernel_rfl) ?_
              intro wa hwa
              have za := hwa.size
              push_cast -dsimp
              refine storeK_of hwa.blk (by simp) rfl ?_
              intro wb hwb
              have zb := hwb.size
              have cb : wb.cell? ⟨(wy).heap.size, 0, none⟩ = some (.int .i64 i) := hwb.blk.cell rfl
              push_cast -dsimp [cb]
              refine ⟨⟨by omega, by omega⟩, ?_⟩
              refine storeK_of hwb.blk (by simp) rfl ?_
              intro wc hwc
              have zc := hwc.size
              have hbac : Below (wy).heap.size (wy) wc := hwa.below.trans ((hwb.kept.below (by omega) (fun i h => by omega)).trans (hwc.kept.below (by omega) (fun i h => by omega)))
              have IC : Blk wc (wy).heap.size 3 [.int .i64 ((i + 1 : Nat) : Int)] := hwc.blk
              have hcn : cntOf (.pointer (some ⟨(wy).heap.size, 0, none⟩)) wc = i + 1 := cntOf_is rfl (IC.cell rfl)
              push_cast -dsimp
              refine ⟨⟨i + 1, (wy).heap.size, _, rfl, rfl, by omega, fun h => absurd h hne0, IC, hOS.below hbac, (fun g hg => by have := hOS.block g hg; omega), hbS.trans (hbac.mono (by omega))⟩, ?_⟩
              show us.length + 1 - cntOf (.pointer (some ⟨(wy).heap.size, 0, none⟩)) wc < us.length + 1 - i
              rw [hcn]
              omega
            · have h0' : i = 0 := by omega
              -- by simp [h0']: the place is a break
              have hsu := upTo_succ nm us f.rules f.els i
              rw [hsay, if_pos (by simp [h0'])] at hsu
              refine rowK elI_53 rfl rfl (by omega) ?_
              intro wr hwr
              have zr := hwr.size
              push_cast -dsimp
              refine appendK2 (base := w8.heap.size) [i] (enc := encN) elI_53 (hOy.new hwr) (by rfl) (fun j u hu => by rw [Nat.zero_add]; exact hwr.cell hu) (by simp [encN, Value.oneCell']) (by simp only [List.length_cons, List.length_nil]; omega) (by omega) ?_
              intro vq wq hOq hgq hnq
              have hkq : Kept (fun j => (Value.slice oa (upTo nm us f.rules f.els i).length oc).ownBlock = some j) wr wq := Kept.grown hgq (fun _ h => h)
              have IBq := (IBy.below hwr.below IBy.lt).kept hkq (fun h => hne _ h rfl)
              have hbq : Below w8.heap.size w8 wq := hb8y.trans ((hwr.below.mono (by omega)).trans (hkq.below (by omega) (fun g h => (hO.block g h).1)))
              rw [← hsu] at hOq
              -- wq: the world; hOq: Vc.Own of the longer row; IBq: the counter's block; hbq: Below w8 wq
              have hbS := hbq
              have zS := hbS.size
              have hOS := hOq
              have cS : (wq).cell? ⟨ib, 0, none⟩ = some (.int .i64 i) := (IBq).cell rfl
              push_cast -dsimp [cS]
              refine allocK (z := [.int .i64 0]) (by kernel_rfl) ?_
              intro wa hwa
              have za := hwa.size
              push_cast -dsimp
              refine storeK_of hwa.blk (by simp) rfl ?_
              intro wb hwb
              have zb := hwb.size
              have cb : wb.cell? ⟨(wq).heap.size, 0, none⟩ = some (.int .i64 i) := hwb.blk.cell rfl
              push_cast -dsimp [cb]
              refine ⟨⟨by omega, by omega⟩, ?_⟩
              refine storeK_of hwb.blk (by simp) rfl ?_
              intro wc hwc
              have zc := hwc.size
              have hbac : Below (wq).heap.size (wq) wc := hwa.below.trans ((hwb.kept.below (by omega) (fun i h => by omega)).trans (hwc.kept.below (by omega) (fun i h => by omega)))
              have IC : Blk wc (wq).heap.size 3 [.int .i64 ((i + 1 : Nat) : Int)] := hwc.blk
              have hcn : cntOf (.pointer (some ⟨(wq).heap.size, 0, none⟩)) wc = i + 1 := cntOf_is rfl (IC.cell rfl)
              push_cast -dsimp
              refine ⟨⟨i + 1, (wq).heap.size, _, rfl, rfl, by omega, fun h => absurd h hne0, IC, hOS.below hbac, (fun g hg => by have := hOS.block g hg; omega), hbS.trans (hbac.mono (by omega))⟩, ?_⟩
              show us.length + 1 - cntOf (.pointer (some ⟨(wq).heap.size, 0, none⟩)) wc < us.length + 1 - i
              rw [hcn]
              omega
      · exact ⟨hdone (.inl (List.eq_nil_of_length_eq_zero (by omega))), hbx⟩
      · exact ⟨hdone (.inr (by omega)), hbx⟩
end Go.Proofs.YtledlfbbebodgaaGreatDoor
end
section
namespace Cae
theorem pn_text {f:FileP}{r:RuleP}(hr:r∈f.rules):pn r.before≤(fileText f).length+5∧pn r.after≤(fileText f).length+5:=by
 have h1:=rt_len r;have h2:=flatS_mem ruleText hr;have h3:(f.rules.flatMap ruleText).length≤(fileText f).length:=by
  unfold fileText;simp only[List.length_append];omega
 have h4:=pt_zero r.before;have h5:=pt_zero r.after;have hp1:pn r.before=(patText r.before 2).length+3:=rfl;have hp2:pn r.after=(patText r.after 2).length+3:=rfl;omega
end Cae
namespace Go.Proofs.YtledlfbbebodgaaGreatDoor
open Go.Vc Go.Proofs Go.RowKit Cae
attribute [local irreducible] wpL callK valK unitK runK Fun Sl Vc.Own vc vcOps opK pureK
theorem parse_pn {s:List UInt8}{f:FileP}(h:parseR s=.ok f)(hs:s.length≤5000):PnOk f:=fun r hr=>by
 have h1:=text_len h;have h2:=pn_text hr;have h3:=wd_pn r.before;have h4:=wd_pn r.after;omega
theorem FileV.mono {X X' Y:Nat→Prop}{w w':World}{v:Value}{f:FileP}(h:FileV X w v f)(hk:Kept Y w w')(hY:∀i,Y i→X i)(hX:∀i,X' i→X i):FileV X' w' v f:=by
 obtain⟨cv,rv,cs,rs,rfl,S1,S2,A1,A2⟩:=h;exact⟨cv,rv,cs,rs,rfl,(S1.kept hk hY).weaken hX,(S2.kept hk hY).weaken hX,A1.imp fun a c h=>ClsR.mono hk hY hX h,A2.imp fun a c h=>RulR.mono hk hY hX h⟩
end Go.Proofs.YtledlfbbebodgaaGreatDoor
end
