/- Texts of this claim, merged: Ms, EqN, Mt, Pmean5, Putf, Utf, Dec, Mn4, Mn5, Mn6, Ap2, Mn7. -/
import Derived.Test.YtledlfbbebodgaaGreatDoorM10
import Derived.Test.YtledlfbbebodgaaGreatDoorM4
import Derived.Shelf.Sort.Plain
import Derived.Shelf.Slices.CompactI
import Derived.Lib.SlicesCompact
import Derived.Test.YtledlfbbebodgaaGreatDoorM2
import Derived.Ground.Names2Prog
import Derived.Lib.RowBridge
import Derived.Shelf.Slices.In.SortNone
import Derived.Test.YtledlfbbebodgaaGreatDoorM3
import Derived.Test.YtledlfbbebodgaaGreatDoorM1
set_option maxRecDepth 100000
set_option linter.unusedSimpArgs false
set_option linter.unusedVariables false
set_option maxHeartbeats 8000000
section
namespace Cae
open Go.Lib
theorem compact_sorted (zs : List Int) (h : zs.Pairwise (· ≤ ·)) : (compact zs).Pairwise (· < ·) ∧ ∀ x, x ∈ compact zs ↔ x ∈ zs := by
  have get : ∀ j, j < zs.length → zs.toArray[j]! = zs[j]! := fun j hj => by simp
  have mono : ∀ i j, i ≤ j → j < zs.length → zs.toArray[i]! ≤ zs.toArray[j]! := fun i j hij hj => by
    rw [get i (by omega), get j hj, getElem!_pos zs i (by omega), getElem!_pos zs j hj]
    rcases Nat.lt_or_eq_of_le hij with hl | he
    · exact List.pairwise_iff_getElem.1 h i j (by omega) hj hl
    · subst he; exact Int.le_refl _
  have key : ∀ m, m ≤ zs.length → (compactUpTo zs.toArray m).Pairwise (· < ·) ∧ (∀ x ∈ compactUpTo zs.toArray m, ∃ j, j < m ∧ zs.toArray[j]! = x) ∧ ∀ j, j < m → zs.toArray[j]! ∈ compactUpTo zs.toArray m := by
    intro m
    induction m with
    | zero => intro _; simp [compactUpTo]
    | succ m ih =>
      intro hm
      obtain ⟨h1, h2, h3⟩ := ih (by omega)
      rw [compactUpTo_succ]
      by_cases hk : keeps zs.toArray m = true
      · rw [if_pos hk]
        refine ⟨List.pairwise_append.2 ⟨h1, by simp, fun x hx y hy => ?_⟩, fun x hx => ?_, fun j hj => ?_⟩
        · rw [List.mem_singleton] at hy
          subst hy
          obtain ⟨j, hj, rfl⟩ := h2 x hx
          unfold keeps at hk
          have hk := of_decide_eq_true hk
          rcases hk with hk | hk
          · omega
          · have a1 := mono j (m - 1) (by omega) (by omega)
            have a2 := mono (m - 1) m (by omega) (by omega)
            omega
        · rw [List.mem_append, List.mem_singleton] at hx
          rcases hx with hx | rfl
          · obtain ⟨j, hj, e⟩ := h2 x hx
            exact ⟨j, by omega, e⟩
          · exact ⟨m, by omega, rfl⟩
        · rw [List.mem_append, List.mem_singleton]
          by_cases hjm : j = m
          · subst hjm; exact .inr rfl
          · exact .inl (h3 j (by omega))
      · rw [if_neg hk, List.append_nil]
        refine ⟨h1, fun x hx => ?_, fun j hj => ?_⟩
        · obtain ⟨j, hj, e⟩ := h2 x hx
          exact ⟨j, by omega, e⟩
        · by_cases hjm : j = m
          · subst hjm
            unfold keeps at hk
            have hk : ¬ (j = 0 ∨ zs.toArray[j]! ≠ zs.toArray[j - 1]!) := fun hh => hk (decide_eq_true hh)
            have e : zs.toArray[j]! = zs.toArray[j - 1]! := Classical.byContradiction fun hne => hk (.inr hne)
            rw [e]
            exact h3 (j - 1) (by omega)
          · exact h3 j (by omega)
  obtain ⟨h1, h2, h3⟩ := key zs.length (Nat.le_refl _)
  refine ⟨h1, fun x => ⟨fun hx => ?_, fun hx => ?_⟩⟩
  · obtain ⟨j, hj, rfl⟩ := h2 x hx
    rw [get j hj, getElem!_pos zs j hj]
    exact List.getElem_mem _
  · obtain ⟨j, hj, rfl⟩ := List.getElem_of_mem hx
    have := h3 j hj
    rwa [get j hj, getElem!_pos zs j hj] at this
def intsN (l:List Nat):List Int:=l.map fun n:Nat=>(n:Int)
theorem intsN_back {zs:List Int} (h:∀z∈zs,0≤z):intsN (zs.map Int.toNat)=zs:=by
 unfold intsN;rw[List.map_map]
 conv=>rhs;rw[←List.map_id zs]
 exact List.map_congr_left fun z hz=>by have:=h z hz;simp[Function.comp];omega
theorem sorted_compact (l:List Nat):∃m:List Nat,compact (intsN l |>.mergeSort fun x y=>decide (x≤y))=intsN m∧m.Pairwise (·<·)∧∀x,x∈m↔x∈l:=by
 have hp:=List.mergeSort_perm (intsN l) (fun x y=>decide (x≤y));have hs:((intsN l).mergeSort fun x y=>decide (x≤y)).Pairwise (·≤·):=by
  have:=List.pairwise_mergeSort (le:=fun x y:Int=>decide (x≤y)) (fun a b c h1 h2=>by simp at *;omega) (fun a b=>by simp;omega) (intsN l);exact this.imp fun h=>of_decide_eq_true h
 obtain⟨h1,h2⟩:=compact_sorted _ hs;have h0:∀z∈compact ((intsN l).mergeSort fun x y=>decide (x≤y)),∃n:Nat,n∈l∧z=n:=fun z hz=>by
  have:=(hp.mem_iff).1 ((h2 z).1 hz);unfold intsN at this;obtain⟨n,hn,rfl⟩:=List.mem_map.1 this;exact⟨n,hn,rfl⟩
 refine⟨_,(intsN_back (fun z hz=>by obtain⟨n,_,rfl⟩:=h0 z hz;omega)).symm,?_,fun x=>?_⟩
 ·rw[List.pairwise_map];refine h1.imp_of_mem fun {a b} ha hb hab=>?_;obtain⟨n,_,rfl⟩:=h0 a ha;obtain⟨k,_,rfl⟩:=h0 b hb;simp;omega
 ·rw[List.mem_map];constructor
  ·rintro⟨z,hz,rfl⟩;obtain⟨n,hn,rfl⟩:=h0 z hz;simpa using hn
  ·intro hx;refine⟨(x:Int),(h2 _).2 (hp.mem_iff.2 ?_),by simp⟩;unfold intsN;exact List.mem_map.2 ⟨x,hx,rfl⟩
end Cae
namespace Go.Proofs.YtledlfbbebodgaaGreatDoor
open Go.Vc Go.Proofs Go.RowKit Cae Go.Sort
theorem flatN (l:List Nat):l.flatMap encN=l.map (fun n:Nat=>Value.int .i64 (n:Int)):=by
 induction l with
 | nil=>rfl
 | cons x l ih=>simp[List.flatMap_cons,encN,ih]
theorem holdsN {base : Nat} {e : TypeId} {w : World} {g n c : Nat} {l : List Nat} (h : Vc.Own base e 1 encN w (.slice (some ⟨g, 0, none⟩) n c) l) : Holds (Value.int .i64) w g 0 (intsN l).toArray := by
  obtain ⟨cur, hB, hl, ht, _⟩ := Vc.Own.opened h rfl
  intro j hj
  have hj' : j < l.length := by simpa [intsN] using hj
  have h1 : cur[j]? = some (.int .i64 (l[j] : Int)) := by
    have h2 : (cur.take (l.length * 1))[j]? = (l.flatMap encN)[j]? := by rw [ht]
    rw [flatN, List.getElem?_take, if_pos (by omega)] at h2
    rw [h2]
    simp [hj']
  have e2 : ((intsN l).toArray)[j]! = (l[j] : Int) := by simp [intsN, hj']
  rw [e2]
  refine ⟨?_, ?_⟩
  · rw [Nat.zero_add]
    exact hB.cell h1
  · have hB' : w.heap[g]? = some (.cells cur.toArray e (0, 0)) := hB
    simp [World.frozen?, hB']
theorem putN {base:Nat} {e:TypeId} {w:World} {g n c q:Nat} {os:Array Obj} {l m:List Nat} (h:Vc.Own base e 1 encN w (.slice (some ⟨g,0,none⟩) n c) l) (ds:List Int) (hd:ds=intsN m) (hm:m.length=l.length) :
  Vc.Own base e 1 encN (Go.Sort.grow (putRow (Value.int .i64) (Sort.ahead w q) g 0 ds.toArray) os) (.slice (some ⟨g,0,none⟩) n c) m∧Kept (fun j=>j=g) w (Go.Sort.grow (putRow (Value.int .i64) (Sort.ahead w q) g 0 ds.toArray) os):=by
 subst hd;have hg:=(h.block g rfl).2;obtain⟨cur,hB,hl,ht,hback⟩:=Vc.Own.opened h rfl;have hsz:(putRow (Value.int .i64) (Sort.ahead w q) g 0 (intsN m).toArray).heap.size=w.heap.size:=by simp[putRow,mapBlock,Sort.ahead]
 constructor
 ·refine hback _ (putCells (Value.int .i64) 0 (intsN m).toArray cur.toArray).toList m ?_ (by simp[putCells]) hm ?_
  ·show (Go.Sort.grow _ os).heap[g]?=_
   rw[heap_grow_old _ _ (by omega)];have hB':w.heap[g]?=some (.cells cur.toArray e (0,0)):=hB;simp[putRow,mapBlock,Sort.ahead,Array.getElem?_modify,hB',onCells]
  ·apply List.ext_getElem?;intro k;rw[flatN,List.getElem?_take];by_cases hk:k<m.length
   ·rw[if_pos (by omega)];have hkc:k<cur.length:=by omega
    simp[putCells,hkc,hk,intsN]
   ·rw[if_neg (by omega),List.getElem?_eq_none (by simp;omega)]
 ·refine⟨rfl,rfl,rfl,?_,fun k hk hne=>?_⟩
  ·simp[Go.Sort.grow,hsz]
  ·rw[heap_grow_old _ _ (by omega)];simp[putRow,mapBlock,Sort.ahead,Array.getElem?_modify,Ne.symm hne]
end Go.Proofs.YtledlfbbebodgaaGreatDoor
end
section
namespace Go.Vc
open Go.RowKit
theorem sl_mk {α:Type} {X:Nat→Prop} {k:Nat} {enc:α→List Value} {w:World} {a:Option Addr} {c n:Nat} {us:List α} (hl:us.length=n) (hc:n≤c) (hk:∀x,(enc x).length=k)
  (h:∀(i:Nat) (u:α),us[i]?=some u→∃b o,a=some ⟨b,o,none⟩∧¬X b∧∀j x,(enc u)[j]?=some x→w.cell? ⟨b,o+i*k+j,none⟩=some x):Sl X k (En enc) w (.slice a n c) us:=by
 subst hl;refine⟨a,c,rfl,hc,fun i u hu=>?_⟩;obtain⟨b,o,e,hX,hcell⟩:=h i u hu;exact⟨b,o,_,e,hX,hk u,hcell,rfl⟩
end Go.Vc
namespace Go.Proofs.YtledlfbbebodgaaGreatDoor
open Go.Vc Go.Proofs Go.RowKit Cae
attribute [local irreducible] wpL callK valK unitK runK Fun Sl Vc.Own vc vcOps opK pureK
theorem equalN_c (l l':List Nat) (hl:l.length<10000000) (X X':Nat→Prop) (v v':Value) (w:World) (hv:Sl X 1 (En encN) w v l) (hv':Sl X' 1 (En encN) w v' l') :
  Fun Tryz.prog 16 [v,v'] w fun r w'=>r=.bool (decide (l=l'))∧Below w.heap.size w w':=by
 obtain⟨a,c,rfl,hc⟩:=hv.shape;obtain⟨a',c',rfl,hc'⟩:=hv'.shape;refine fun_of_vc Tryz.func16 rfl (by kernel_rfl) [4] rfl ?_;simp -dsimp (maxSteps:=4000000) only[push_cast,fr0,Tryz.ntmps16,List.length_cons,List.length_nil,Nat.reduceAdd,Nat.reduceSub,Nat.reduceBEq,List.replicate_succ,List.replicate_zero];refine⟨fun hne=>⟨?_,Below.refl _ _⟩,fun he=>?_⟩
 ·rw[decide_eq_false];intro h;subst h;omega
 have he':l.length=l'.length:=by omega
 refine wpL_loop [4,5,13,14,15,16,17,18,19,20,21,22,23,24,25] (fun z wx=>∃(i:Nat),z 13=.int .i64 i∧i≤l.length∧l.take i=l'.take i∧Below w.heap.size w wx) (fun z _=>l.length - (intOf (z 13)).toNat) ?_ ?_
 ·exact⟨0,rfl,Nat.zero_le _,rfl,Below.refl _ _⟩
 ·intro z wx hI;obtain⟨i,h13,hi,hok,hb⟩:=hI;simp -dsimp only[push_cast,Nat.reduceAdd,Nat.reduceLeDiff,Nat.reduceBEq,Int.reduceNe,Int.reduceEq,Int.reduceLT,Int.reduceLE,h13];refine⟨fun hlt=>?_,fun hge=>?_⟩
  ·obtain⟨x,hx,hxm,hd,ht⟩:=lt_get (l:=l) (i:=i) (by omega);obtain⟨b,o,rfl,hX,hcell⟩:=(hv.below hb).get hx;obtain⟨x',hx',hxm',hd',ht'⟩:=lt_get (l:=l') (i:=i) (by omega);obtain⟨b',o',rfl,hX',hcell'⟩:=(hv'.below hb).get hx';refine wpL_draw (fun w'=>∀a,w'.cell? a=wx.cell? a) mixed (by kernel_rfl) (fun _=>rfl) ?_;have c0:wx.cell? ⟨b,o+i,none⟩=some (.int .i64 (x:Int)):=by simpa using hcell 0 _ rfl
   have c0':wx.cell? ⟨b',o'+i,none⟩=some (.int .i64 (x':Int)):=by simpa using hcell' 0 _ rfl
   have d0:wx.drew.cell? ⟨b,o+i,none⟩=some (.int .i64 (x:Int)):=c0;have d0':wx.drew.cell? ⟨b',o'+i,none⟩=some (.int .i64 (x':Int)):=c0';simp -dsimp only[push_cast,Nat.reduceAdd,Nat.reduceLeDiff,Nat.reduceBEq,Int.reduceNe,Int.reduceEq,Int.reduceLT,Int.reduceLE,d0,d0']
   refine⟨⟨by omega,by omega⟩,fun w'' hC=>by rw[hC,c0];exact rfl,⟨by omega,by omega⟩,fun w'' hC=>by rw[hC,c0'];exact rfl,fun hne=>?_,fun heq=>?_⟩
   ·refine⟨?_,hb.drew⟩;rw[decide_eq_false];intro h;subst h;rw[hx]at hx';cases hx';exact hne rfl
   ·have heq:x=x':=by omega
    exact⟨⟨by omega,by omega⟩,⟨i+1,rfl,by omega,by rw[ht,ht',hok,heq],hb.drew⟩,by rw[h13];simp only[intOf];omega⟩
  ·refine⟨?_,hb⟩;rw[List.take_of_length_le (by omega),List.take_of_length_le (by omega)]at hok;rw[decide_eq_true hok]
end Go.Proofs.YtledlfbbebodgaaGreatDoor
end
section
namespace Go.Proofs.YtledlfbbebodgaaGreatDoor
open Go.Vc Go.Proofs Go.RowKit Cae Go.Sort
def srtR_ren:Go.Shelf.Ren:=⟨fun|189=>73|125=>117|257=>116|128=>156|129=>157|294=>147|295=>148|296=>149|297=>150|298=>151|299=>152|216=>153|300=>154|301=>155|328=>173|329=>174|330=>175|331=>176|332=>177|215=>146|343=>195|n=>n,fun|28=>53|3=>3|46=>103|0=>0|51=>244|53=>246|4=>4|183=>237|182=>236|131=>168|5=>5|9=>9|218=>254|222=>258|228=>278|229=>97|n=>n,fun|n=>n⟩
theorem srtR : Go.Proofs.Lays.n189 Tryz.prog srtR_ren := {
  mixed := by kernel_rfl
  f125 := Tryz.func117.trans (congrArg some (by kernel_rfl))
  f128 := Tryz.func156.trans (congrArg some (by kernel_rfl))
  f129 := Tryz.func157.trans (congrArg some (by kernel_rfl))
  f189 := Tryz.func73.trans (congrArg some (by kernel_rfl))
  f215 := Tryz.func146.trans (congrArg some (by kernel_rfl))
  f216 := Tryz.func153.trans (congrArg some (by kernel_rfl))
  f257 := Tryz.func116.trans (congrArg some (by kernel_rfl))
  f294 := Tryz.func147.trans (congrArg some (by kernel_rfl))
  f295 := Tryz.func148.trans (congrArg some (by kernel_rfl))
  f296 := Tryz.func149.trans (congrArg some (by kernel_rfl))
  f297 := Tryz.func150.trans (congrArg some (by kernel_rfl))
  f298 := Tryz.func151.trans (congrArg some (by kernel_rfl))
  f299 := Tryz.func152.trans (congrArg some (by kernel_rfl))
  f300 := Tryz.func154.trans (congrArg some (by kernel_rfl))
  f301 := Tryz.func155.trans (congrArg some (by kernel_rfl))
  f328 := Tryz.func173.trans (congrArg some (by kernel_rfl))
  f329 := Tryz.func174.trans (congrArg some (by kernel_rfl))
  f330 := Tryz.func175.trans (congrArg some (by kernel_rfl))
  f331 := Tryz.func176.trans (congrArg some (by kernel_rfl))
  f332 := Tryz.func177.trans (congrArg some (by kernel_rfl))
  f343 := Tryz.func195.trans (congrArg some (by kernel_rfl))
  t0 := Tryz.underlying0
  a0 := Tryz.isAgg0
  z0 := Tryz.sizeOf0
  v0 := Tryz.zeroValue0
  t3 := Tryz.underlying3
  a3 := Tryz.isAgg3
  z3 := Tryz.sizeOf3
  v3 := Tryz.zeroValue3
  t4 := Tryz.underlying4
  a4 := Tryz.isAgg4
  z4 := Tryz.sizeOf4
  v4 := Tryz.zeroValue4
  t5 := Tryz.underlying5
  a5 := Tryz.isAgg5
  z5 := Tryz.sizeOf5
  v5 := Tryz.zeroValue5
  t9 := Tryz.underlying9
  a9 := Tryz.isAgg9
  z9 := Tryz.sizeOf9
  v9 := Tryz.zeroValue9
  t28 := Tryz.underlying53
  a28 := Tryz.isAgg53
  z28 := Tryz.sizeOf53
  v28 := Tryz.zeroValue53
  t46 := Tryz.underlying103
  a46 := Tryz.isAgg103
  z46 := Tryz.sizeOf103
  v46 := Tryz.zeroValue103
  t51 := Tryz.underlying244
  a51 := Tryz.isAgg244
  z51 := Tryz.sizeOf244
  v51 := Tryz.zeroValue244
  t53 := Tryz.underlying246
  a53 := Tryz.isAgg246
  z53 := Tryz.sizeOf246
  v53 := Tryz.zeroValue246
  t131 := Tryz.underlying168
  a131 := Tryz.isAgg168
  z131 := Tryz.sizeOf168
  v131 := Tryz.zeroValue168
  t182 := Tryz.underlying236
  a182 := Tryz.isAgg236
  z182 := Tryz.sizeOf236
  v182 := Tryz.zeroValue236
  t183 := Tryz.underlying237
  a183 := Tryz.isAgg237
  z183 := Tryz.sizeOf237
  v183 := Tryz.zeroValue237
  t218 := Tryz.underlying254
  a218 := Tryz.isAgg254
  z218 := Tryz.sizeOf254
  v218 := Tryz.zeroValue254
  t222 := Tryz.underlying258
  a222 := Tryz.isAgg258
  z222 := Tryz.sizeOf258
  v222 := Tryz.zeroValue258
  t228 := Tryz.underlying278
  a228 := Tryz.isAgg278
  z228 := Tryz.sizeOf278
  v228 := Tryz.zeroValue278
  t229 := Tryz.underlying97
  a229 := Tryz.isAgg97
  z229 := Tryz.sizeOf97
  v229 := Tryz.zeroValue97 }
def cmpctR_ren:Go.Shelf.Ren:=⟨fun|20=>74|n=>n,fun|22=>53|3=>3|4=>4|0=>0|n=>n,fun|n=>n⟩
theorem cmpctR:Go.Proofs.Lays2.n20 Tryz.prog cmpctR_ren:={
 mixed:=by kernel_rfl
 f20:=Tryz.func74.trans (congrArg some (by kernel_rfl))
 t0:=Tryz.underlying0
 a0:=Tryz.isAgg0
 z0:=Tryz.sizeOf0
 v0:=Tryz.zeroValue0
 t3:=Tryz.underlying3
 a3:=Tryz.isAgg3
 z3:=Tryz.sizeOf3
 v3:=Tryz.zeroValue3
 t4:=Tryz.underlying4
 a4:=Tryz.isAgg4
 z4:=Tryz.sizeOf4
 v4:=Tryz.zeroValue4
 t22:=Tryz.underlying53
 a22:=Tryz.isAgg53
 z22:=Tryz.sizeOf53
 v22:=Tryz.zeroValue53
 i3:=by kernel_rfl }
theorem ownN0 {base:Nat} {e:TypeId} {w:World} {ad:Addr} {n c:Nat} {l:List Nat} (h:Vc.Own base e 1 encN w (.slice (some ad) n c) l):∃g,ad=⟨g,0,none⟩:=by
 rcases h.1.2 with ⟨he,_⟩|⟨g,cap,cr,he,_⟩
 ·cases he
 ·cases he;exact⟨_,rfl⟩
theorem sortN_c (l:List Nat) (hl:l.length<1000000000) (base:Nat) (v:Value) (w:World) (ho:Vc.Own base 3 1 encN w v l) :
  Fun Tryz.prog 73 [v] w fun r w'=>(∃m,intsN m=((intsN l).mergeSort fun x y=>decide (x≤y))∧Vc.Own base 3 1 encN w' v m)∧Kept (fun j=>v.ownBlock=some j) w w':=by
 refine fun_of_calls Tryz.func73 (by kernel_rfl) (by kernel_rfl) ?_;obtain⟨a,c,rfl⟩:=ho.slice;cases a with
 | none =>
  have hz:=(ho.nilArg _ _ rfl).1;have hn:l=[]:=List.eq_nil_of_length_eq_zero hz;subst hn;refine(Any.slices_Sort_int_none srtR none c w).mono ?_;rintro e w' ⟨rfl,rfl⟩;exact⟨_,rfl,⟨[],by simp[intsN],ho⟩,Kept.refl _ _⟩
 | some ad =>
  obtain⟨g,rfl⟩:=ownN0 ho;have hgb:=ho.block g rfl;have hil:(intsN l).length=l.length:=by simp[intsN]
  have hcon:=Any.slices_Sort_int srtR g 0 c (intsN l) w (holdsN ho) hgb.2 (by omega);rw[hil]at hcon;refine Calls.mono hcon ?_;rintro e w' ⟨rfl,n,os,rfl⟩;have hp:=List.mergeSort_perm (intsN l) (fun x y=>decide (x≤y));have hback:intsN (((intsN l).mergeSort fun x y=>decide (x≤y)).map Int.toNat)=((intsN l).mergeSort fun x y=>decide (x≤y)):=intsN_back fun z hz=>by
   have:=hp.mem_iff.1 hz;unfold intsN at this;obtain⟨k,_,rfl⟩:=List.mem_map.1 this;omega
  have hput:=putN (q:=n) (os:=os) ho _ hback.symm (by rw[List.length_map,hp.length_eq,hil]);exact⟨_,rfl,⟨_,hback,hput.1⟩,hput.2.weaken (fun i _ h=>by rw[h];rfl)⟩
theorem compactN_c (l:List Nat) (hl:l.length<1000000000) (base:Nat) (v:Value) (w:World) (ho:Vc.Own base 3 1 encN w v l) :
  Fun Tryz.prog 74 [v] w fun r w'=>(∃m,intsN m=Lib.compact (intsN l)∧Vc.Own base 3 1 encN w' r m∧∀j,r.ownBlock=some j→v.ownBlock=some j)∧Kept (fun j=>v.ownBlock=some j) w w':=by
 refine fun_of_calls Tryz.func74 (by kernel_rfl) (by kernel_rfl) ?_;obtain⟨a,c,rfl⟩:=ho.slice;cases a with
 | none =>
  have hz:=(ho.nilArg _ _ rfl).1;have hn:l=[]:=List.eq_nil_of_length_eq_zero hz;subst hn;refine(Any.slices_Compact_int_empty cmpctR none c w).mono ?_;rintro e w' ⟨rfl,rfl⟩;exact⟨_,rfl,⟨[],rfl,ho,fun j h=>h⟩,Kept.refl _ _⟩
 | some ad =>
  obtain⟨g,rfl⟩:=ownN0 ho;have hil:(intsN l).length=l.length:=by simp[intsN]
  have hcut:=Vc.Own.cut ho;have hcap:l.length≤c:=by
   rcases hcut with ⟨h,_⟩|⟨g',_,_,hc,_⟩
   ·cases h
   ·exact hc
  have hcon:=Any.slices_Compact_int cmpctR g 0 c (intsN l) w (holdsN ho) (by omega) (by omega);rw[hil]at hcon;refine Calls.mono hcon ?_;rintro e w' ⟨rfl,q,rfl⟩;have hle:=Lib.compact_length_le (intsN l);have hback:intsN ((Lib.compact (intsN l)).map Int.toNat)=Lib.compact (intsN l):=intsN_back fun z hz=>by
   unfold Lib.compact Lib.compactUpTo at hz;obtain⟨k,hk,rfl⟩:=List.mem_map.1 hz;have hk2:=List.mem_range.1 (List.mem_filter.1 hk).1;have hk3:k<l.length:=by omega
   simp[intsN,hk3]
  have hfull:Lib.compact (intsN l)++List.replicate (l.length - (Lib.compact (intsN l)).length) 0=intsN ((Lib.compact (intsN l)).map Int.toNat++List.replicate (l.length - (Lib.compact (intsN l)).length) 0):=by
   unfold intsN;rw[List.map_append];have h1:=hback;unfold intsN at h1;rw[h1];simp
  have hput:=putN (q:=q) (os:=#[]) ho _ hfull (by rw[List.length_append,List.length_map,List.length_replicate];omega);rw[Sort.grow_empty]at hput;have hc2:=Vc.Own.cut hput.1;rcases hc2 with ⟨h,_⟩|⟨g',hg',_,_,hall⟩
  ·cases h
  ·cases hg';have h3:=hall (Lib.compact (intsN l)).length (by omega);rw[List.take_left' (by simp)]at h3;exact⟨_,rfl,⟨_,hback,h3,fun j h=>h⟩,hput.2.weaken (fun i _ h=>by rw[h];rfl)⟩
theorem sl_ints {X:Nat→Prop} {w:World} {v:Value} {l:List Nat} (h:Sl X 1 (En encN) w v l):Sl X 1 (En Go.Vc.encZ) w v (intsN l):=by
 obtain⟨a,c,rfl,hc⟩:=h.shape;refine sl_mk (by simp[intsN]) hc (fun _=>rfl) fun i u hu=>?_;unfold intsN at hu;rw[List.getElem?_map]at hu;obtain⟨n,hn,rfl⟩:=Option.map_eq_some_iff.1 hu;obtain⟨b,o,e,hX,hcell⟩:=h.get hn;exact⟨b,o,e,hX,fun j x hx=>hcell j x hx⟩
theorem intsEnc (l:List Nat):(intsN l).flatMap Go.Vc.encZ=l.flatMap encN:=by
 rw[flatN];unfold intsN;induction l with
 | nil=>rfl
 | cons x l ih=>rw[List.map_cons,List.flatMap_cons,List.map_cons,ih];rfl
theorem own_ints {base:Nat} {e:TypeId} {w:World} {v:Value} {l:List Nat} (h:Vc.Own base e 1 Go.Vc.encZ w v (intsN l)):Vc.Own base e 1 encN w v l:=by
 have e1:=intsEnc l;have e2:(intsN l).length=l.length:=by simp[intsN]
 refine⟨?_,fun _=>rfl⟩;have:=h.1;rw[e1,e2]at this;exact this
theorem cloneN_c (l:List Nat) (hl:l.length<1000000000) (X:Nat→Prop) (v:Value) (w:World) (hv:Sl X 1 (En encN) w v l) (ha:Arg v) :
  Fun Tryz.prog 63 [v] w fun r w'=>Vc.Own w.heap.size 3 1 encN w' r l∧Below w.heap.size w w' :=
 (clone_c (intsN l) (by simp[intsN];omega) X v w (sl_ints hv) ha).mono fun r w' ⟨h1,h2⟩=>⟨own_ints h1,h2⟩
end Go.Proofs.YtledlfbbebodgaaGreatDoor
end
section
namespace Cae
theorem imgM_of {N:Nat} {R:Nat→Nat→Prop} {l m:List Nat} (hm:m.Pairwise (·<·)) (h:∀j,j∈m↔j≤N∧∃i∈l,R i j):m=imgM N R l :=
 rise_eq hm (imgM_rise N R l) fun j=>by rw[h j,imgM_mem]
def catN (has:KindP→Int→Prop) (pts:List Int) (back:Bool) (l:List PatP) (n:Nat):Nat→Nat→Prop:=if back then RchB has pts back (l.drop (l.length - n)) else RchF has pts back (l.take n)
section
variable {has:KindP→Int→Prop} {pts:List Int} {back:Bool}
theorem catN_zero {l:List PatP} {i j:Nat}:catN has pts back l 0 i j↔i=j:=by
 unfold catN;cases back
 ·simp[RchF]
 ·simp[RchB]
theorem catN_all {l:List PatP} {i j:Nat}:catN has pts back l l.length i j↔Rch has pts back (.cat l) i j:=by
 unfold catN;rw[rch_cat];cases back
 ·simp
 ·simp
theorem catN_succ {l:List PatP} {n:Nat} {x:PatP} {i j:Nat} (hn:n<l.length) (hx:l[if back then l.length - 1 - n else n]?=some x):catN has pts back l (n+1) i j↔∃m,catN has pts back l n i m∧Rch has pts back x m j:=by
 unfold catN;cases back with
 | false =>
  have hx:l[n]?=some x:=hx;rw[if_neg (by simp),if_neg (by simp),List.take_add_one,hx]
  show RchF has pts false (l.take n++[x]) i j↔_
  rw[rchF_app];refine exists_congr fun m=>and_congr Iff.rfl ?_;simp only[RchF];constructor
  ·rintro⟨k,h1,rfl⟩;exact h1
  ·intro h;exact⟨j,h,rfl⟩
 | true =>
  have hx:l[l.length - 1 - n]?=some x:=hx;rw[if_pos rfl,if_pos rfl];have hlt:l.length - (n+1)<l.length:=by omega
  have e:l.drop (l.length - (n+1))=x :: l.drop (l.length - n):=by
   rw[List.drop_eq_getElem_cons hlt];have e1:l.length - (n+1)+1=l.length - n:=by omega
   rw[e1];congr 1;have e2:l.length - 1 - n=l.length - (n+1):=by omega
   rw[e2,List.getElem?_eq_getElem hlt]at hx;exact Option.some.inj hx
  rw[e];simp only[RchB]
theorem catN_le {l:List PatP} {n i j:Nat} (hi:i≤pts.length) (h:catN has pts back l n i j):j≤pts.length:=by
 unfold catN at h;split at h
 ·exact rchB_le _ hi h
 ·exact rchF_le _ hi h
theorem many_iff {x:PatP} {lo:Nat} {hi:Int} {from_:List Nat} {j:Nat}:(∃i∈from_,Rch has pts back (.many x (lo:Int) hi) i j)↔∃t,(hi<0∨((lo+t:Nat):Int)≤hi)∧stM (Rch has pts back x) from_ (lo+t) j:=by
 constructor
 ·rintro⟨i,hm,h⟩;obtain⟨n,h1,h2,h3⟩:=rch_many.1 h;refine⟨n - lo,?_,i,hm,?_⟩
  ·rw[show lo+(n - lo)=n by omega];exact h2
  ·rw[show lo+(n - lo)=n by omega];exact h3
 ·rintro⟨t,h1,i,hm,h2⟩;exact⟨i,hm,rch_many.2 ⟨lo+t,by omega,h1,h2⟩⟩
end
theorem rise_same {l m:List Nat} (hl:l.Pairwise (·<·)) (hm:m.Pairwise (·<·)) (h:∀x∈l,x∈m) (hlen:l.length=m.length):l=m:=by
 have e:l=m.filter fun x=>decide (x∈l):=rise_eq hl (List.Pairwise.filter _ hm) fun x=>by
  rw[List.mem_filter,decide_eq_true_iff];exact⟨fun hx=>⟨h x hx,hx⟩,fun hx=>hx.2⟩
 have e2:(m.filter fun x=>decide (x∈l)).length=m.length:=by rw[←e];exact hlen
 have hall:=List.length_filter_eq_length_iff.1 e2;exact rise_eq hl hm fun x=>⟨h x,fun hx=>of_decide_eq_true (hall x hx)⟩
def usize (c:Nat):Nat:=if c<128 then 1 else if 194≤c∧c<224 then 2 else if 224≤c∧c<240 then 3 else if 240≤c∧c<245 then 4 else 0
theorem usize_le (c:Nat):usize c≤4:=by unfold usize;grind
def uleast (n:Nat):Nat:=if n=2 then 128 else if n=3 then 2048 else if n=4 then 65536 else 0
def ulead (n c:Nat):Nat:=if 1<n then c % 2 ^ (7 - n) else c
def ubad (n p:Nat):Prop:=p<uleast n∨1114111<p∨(55296≤p∧p<57344)
instance (n p:Nat):Decidable (ubad n p):=by unfold ubad;infer_instance
def urd:List UInt8→Nat→Option Nat
 | [],p=>some p
 | c :: r,p=>if c.toNat / 64=2 then urd r (p*64+c.toNat % 64) else none
def ufirst (s:List UInt8):Nat×Nat:=match s with
 | []=>(0,0)
 | c :: _ =>
  let n:=usize c.toNat
  if n=0∨s.length<n then (0,0) else
  match urd ((s.take n).drop 1) (ulead n c.toNat) with
  | none=>(0,0)
  | some p=>if ubad n p then (0,0) else (p,n)
structure U where
 p:Nat
 at_:Nat
 n:Nat
 deriving DecidableEq
def ustep (s:List UInt8):Nat×Nat:=if (ufirst s).2=0 then (65533,1) else ufirst s
theorem ufirst_le (s:List UInt8):(ufirst s).2≤s.length∧(ufirst s).2≤4∧((ufirst s).2=0→ufirst s=(0,0))∧(ufirst s).1≤1114111:=by
 unfold ufirst
 cases s with
 | nil=>simp
 | cons c s =>
  dsimp only
  split
  ·simp
  ·rename_i h
   have hu:=usize_le c.toNat
   have h1:usize c.toNat≠0:=fun e=>h (.inl e)
   have h2:¬(c :: s).length<usize c.toNat:=fun e=>h (.inr e)
   split
   ·simp
   ·split
    ·simp
    ·rename_i hb
     unfold ubad at hb
     simp only[not_or,Nat.not_lt]at hb
     exact⟨by omega,hu,fun e=>absurd e h1,hb.2.1⟩
theorem ustep_pos (s:List UInt8):1≤(ustep s).2∧(ustep s).2≤4:=by
 unfold ustep;have:=ufirst_le s;split <;> first|(simp;done)|(simp;omega)|omega
theorem ustep_le (s:List UInt8) (h:s≠[]):(ustep s).2≤s.length:=by
 unfold ustep;have:=ufirst_le s;have:0<s.length:=List.length_pos_iff.2 h;split <;> first|(simp;done)|(simp;omega)|omega
def udec (at_:Nat) (s:List UInt8):List U :=
 if _h:s=[] then [] else ⟨(ustep s).1,at_,(ustep s).2⟩ :: udec (at_+(ustep s).2) (s.drop (ustep s).2)
termination_by s.length
decreasing_by
 have h1:=ustep_pos s
 have h2:0<s.length:=List.length_pos_iff.2 (by assumption)
 simp
 omega
theorem udec_nil (a:Nat):udec a []=[]:=by rw[udec];simp
theorem udec_cons (a:Nat) (s:List UInt8) (h:s≠[]):udec a s=⟨(ustep s).1,a,(ustep s).2⟩ :: udec (a+(ustep s).2) (s.drop (ustep s).2):=by rw[udec];simp[h]
theorem udec_length (n:Nat):∀(s:List UInt8) (a:Nat),s.length=n→(udec a s).length≤s.length:=by
 induction n using Nat.strongRecOn with
 | _ n ih =>
  intro s a hs;by_cases h:s=[]
  ·subst h;simp[udec_nil]
  ·rw[udec_cons a s h];have h1:=ustep_pos s;have h2:=ustep_le s h;have:=ih (s.drop (ustep s).2).length (by rw[List.length_drop];omega) (s.drop (ustep s).2) (a+(ustep s).2) rfl;rw[List.length_drop]at this;simp only[List.length_cons];omega
def okPoint (p:Int):Prop:=0≤p∧p≤1114111∧¬(55296≤p∧p<57344)
instance (p:Int):Decidable (okPoint p):=by unfold okPoint;infer_instance
theorem ufirst_none {c:UInt8} {s:List UInt8} (h0:usize c.toNat≠0) (hl:usize c.toNat≤(c :: s).length)
  (h:urd (((c :: s).take (usize c.toNat)).drop 1) (ulead (usize c.toNat) c.toNat)=none):ufirst (c :: s)=(0,0):=by
 unfold ufirst;dsimp only;rw[if_neg (by omega),h]
theorem ufirst_some {c:UInt8} {s:List UInt8} {p:Nat} (h0:usize c.toNat≠0) (hl:usize c.toNat≤(c :: s).length)
  (h:urd (((c :: s).take (usize c.toNat)).drop 1) (ulead (usize c.toNat) c.toNat)=some p) :
  ufirst (c :: s)=if ubad (usize c.toNat) p then (0,0) else (p,usize c.toNat):=by
 unfold ufirst;dsimp only;rw[if_neg (by omega),h]
theorem urd_step {s:List UInt8} {n i p:Nat} {R:Option Nat} (hi:i<n) (hn:n≤s.length) (h:urd ((s.take n).drop i) p=R) :
  (if (s.getD i 0).toNat / 64=2 then urd ((s.take n).drop (i+1)) (p*64+(s.getD i 0).toNat % 64) else none)=R:=by
 have hl:i<(s.take n).length:=by rw[List.length_take];omega
 rw[List.drop_eq_getElem_cons hl,urd]at h;have e:(s.take n)[i]=s.getD i 0:=by
  rw[List.getElem_take,List.getD_eq_getElem?_getD,List.getElem?_eq_getElem (by omega)];rfl
 rw[e]at h;exact h
theorem urd_end {s:List UInt8} {n i p:Nat} {R:Option Nat} (hi:n≤i) (h:urd ((s.take n).drop i) p=R):R=some p:=by
 rw[List.drop_eq_nil_of_le (by rw[List.length_take];omega)]at h;exact h.symm
theorem urd_bound {p i k:Nat} (h:p<256*64 ^ (i - 1)) (h1:1≤i) (hk:k<64):p*64+k<256*64 ^ (i+1 - 1):=by
 obtain⟨j,rfl⟩:∃j,i=j+1:=⟨i - 1,by omega⟩;simp only[Nat.add_sub_cancel]at h ⊢;rw[Nat.pow_succ];omega
theorem urd_small {p i:Nat} (h:p<256*64 ^ (i - 1)) (hi:i≤4):p<67108865:=by
 have:64 ^ (i - 1)≤64 ^ 3:=Nat.pow_le_pow_right (by omega) (by omega);omega
end Cae
end
section
namespace Go.Proofs.YtledlfbbebodgaaGreatDoor
open Go.Vc Go.Proofs Go.RowKit Cae
attribute [local irreducible] wpL callK valK unitK runK Fun Sl Vc.Own vc vcOps opK pureK
def Least (w:World):Prop:=∀k:Nat,k<5→w.cell? ⟨0,k,none⟩=some (.int .i64 (uleast k))
theorem Least.below {w w':World} (h:Least w) (hb:Below w.heap.size w w'):Least w':=fun k hk=>by
 have:=h k hk;exact(hb.cell (World.block_lt_of_cell? w _ this)).trans this
theorem size_c (c:Nat) (w:World):Fun Tryz.prog 69 [.int .u8 c] w fun v w'=>v=.int .i64 (usize c)∧w'=w:=by
 refine fun_of_vc Tryz.func69 rfl (by kernel_rfl) [2] rfl ?_;simp -dsimp (maxSteps:=4000000) only[push_cast,fr0,Tryz.ntmps69,List.length_cons,List.length_nil,Nat.reduceAdd,Nat.reduceSub,Nat.reduceBEq,List.replicate_succ,List.replicate_zero];simp only[Value.int.injEq,usize];grind
theorem lead_and {n c:Nat} (hn:n≤4) (h1:1<n) (hc:c<256) :
  bitop .and .i64 (IntKind.i64.wrap (c:Int)) (IntKind.i64.wrap (1*2 ^ min ((7:Int) - n).toNat IntKind.i64.bits) - 1)=((ulead n c:Nat):Int):=by
 have e:n=2∨n=3∨n=4:=by omega
 rw[wrap_i64_nat (by omega)]
 rcases e with rfl|rfl|rfl
 ·rw[show IntKind.i64.wrap (1*2 ^ min ((7:Int) - (2:Nat)).toNat IntKind.i64.bits) - 1=((2 ^ 5 - 1:Nat):Int) from by decide,bits_and_i64 (by omega) (by omega),and_mask];rfl
 ·rw[show IntKind.i64.wrap (1*2 ^ min ((7:Int) - (3:Nat)).toNat IntKind.i64.bits) - 1=((2 ^ 4 - 1:Nat):Int) from by decide,bits_and_i64 (by omega) (by omega),and_mask];rfl
 ·rw[show IntKind.i64.wrap (1*2 ^ min ((7:Int) - (4:Nat)).toNat IntKind.i64.bits) - 1=((2 ^ 3 - 1:Nat):Int) from by decide,bits_and_i64 (by omega) (by omega),and_mask];rfl
theorem ulead_lt {n c:Nat} (hc:c<256):ulead n c<256:=by
 unfold ulead;split
 ·exact Nat.lt_of_le_of_lt (Nat.mod_le _ _) hc
 ·exact hc
theorem cont_and (c:UInt8):bitop .and .u8 (c.toNat:Int) 192=((c.toNat / 64*64:Nat):Int):=by
 have hc:=c.toNat_lt;rw[show (192:Int)=((192:Nat):Int) from rfl,bits_and_u8 hc (by omega)];congr 1;have:∀k:Nat,k<256→k &&& 192=k / 64*64:=by decide
 exact this _ hc
theorem low_and (c:UInt8):bitop .and .u8 (c.toNat:Int) 63=((c.toNat % 64:Nat):Int):=by
 have hc:=c.toNat_lt;rw[show (63:Int)=((2 ^ 6 - 1:Nat):Int) from rfl,bits_and_u8 hc (by omega),and_mask]
theorem more_or {p c:Nat} (hp:p<2147483648) :
  bitop .or .i64 (IntKind.i64.wrap ((p:Int)*2 ^ min (6:Int).toNat IntKind.i64.bits)) (IntKind.i64.wrap ((c % 64:Nat):Int))=((p*64+c % 64:Nat):Int):=by
 rw[shl_i64 (k:=6) rfl (by omega) (by omega),wrap_i64_nat (by omega),bits_or_i64 (by omega) (by omega),or_low (by omega)]
theorem first_walk {c:UInt8} {s':List UInt8} {i p:Nat} (h1:¬(usize c.toNat:Int)=0) (h2:¬(s'.length:Int)+1<usize c.toNat)
  (hi1:1≤i) (hp:p<256*64 ^ (i - 1)) (hi2:i≤usize c.toNat)
  (hr:urd (((c :: s').take (usize c.toNat)).drop i) p=urd (((c :: s').take (usize c.toNat)).drop 1) (ulead (usize c.toNat) c.toNat)) :
  (i<usize c.toNat →
   (bitop .and .u8 (((c :: s').getD i 0).toNat:Int) 192≠128→ufirst (c :: s')=(0,0)) ∧
   (¬bitop .and .u8 (((c :: s').getD i 0).toNat:Int) 192≠128→∃q:Nat,
    bitop .or .i64 (IntKind.i64.wrap ((p:Int)*2 ^ min (6:Int).toNat IntKind.i64.bits)) (IntKind.i64.wrap (bitop .and .u8 (((c :: s').getD i 0).toNat:Int) 63))=(q:Int) ∧
    q<256*64 ^ (i+1 - 1)∧urd (((c :: s').take (usize c.toNat)).drop (i+1)) q=urd (((c :: s').take (usize c.toNat)).drop 1) (ulead (usize c.toNat) c.toNat))) ∧
  (¬i<usize c.toNat→ufirst (c :: s')=if ubad (usize c.toNat) p then (0,0) else (p,usize c.toNat)):=by
 have hu:=usize_le c.toNat
 have hl:usize c.toNat≤(c :: s').length:=by simp only[List.length_cons];omega
 have h0:usize c.toNat≠0:=by omega
 refine⟨fun hlt=>?_,fun hge=>ufirst_some h0 hl (urd_end (by omega) hr)⟩
 have hstep:=urd_step hlt hl hr
 rw[cont_and,low_and]
 generalize (c :: s').getD i 0=x at hstep ⊢
 refine⟨fun hx=>?_,fun hx=>?_⟩
 ·rw[if_neg (by omega)]at hstep
  exact ufirst_none h0 hl hstep.symm
 ·rw[if_pos (by omega)]at hstep
  exact⟨_,more_or (by have:=urd_small hp (by omega);omega),urd_bound hp hi1 (Nat.mod_lt _ (by omega)),hstep⟩
theorem first_c (s:List UInt8) (hs:s.length<1000000) (h0:s≠[]) (w:World) (hg:Least w) :
  Fun Tryz.prog 43 [str s] w fun v w'=>v=.tuple #[.int .i64 (ufirst s).1,.int .i64 (ufirst s).2]∧Below w.heap.size w w':=by
 obtain⟨c,s',rfl⟩:=List.exists_cons_of_ne_nil h0;have hl:0<((c :: s').length:Int):=by simp
 refine fun_of_vc Tryz.func43 rfl (by kernel_rfl) [2,3] rfl ?_;simp -dsimp (maxSteps:=4000000) only[push_cast,fr0,Tryz.ntmps43,List.length_cons,List.length_nil,Nat.reduceAdd,Nat.reduceSub,Nat.reduceBEq,List.replicate_succ,List.replicate_zero];refine⟨hl,?_⟩;refine callK_of (size_c _ w) ?_;rintro v w' ⟨rfl,rfl⟩;have hu:=usize_le c.toNat;have hc:=c.toNat_lt;simp only[List.getD_cons_zero]
 simp -dsimp only[push_cast,Nat.reduceAdd,Nat.reduceLeDiff,Nat.reduceBEq,Int.reduceNe,Int.reduceEq,Int.reduceLT,Int.reduceLE]
 repeat' first|apply And.intro|intro _
 all_goals try exact hl
 all_goals try simp only[List.getD_cons_zero]
 all_goals try exact Below.refl _ _
 ·rename_i h1 h2;have e:ufirst (c :: s')=(0,0):=by unfold ufirst;simp;intro h3;omega
  rw[e];rfl
 ·rename_i h1 h2 h3;refine wpL_draw (fun _=>True) mixed (by kernel_rfl) trivial ?_;simp -dsimp only[push_cast,Nat.reduceAdd,Nat.reduceLeDiff,Nat.reduceBEq,Int.reduceNe,Int.reduceEq,Int.reduceLT,Int.reduceLE];refine⟨by omega,by omega,by omega,?_,?_⟩
  ·have e:usize c.toNat=2∨usize c.toNat=3∨usize c.toNat=4:=by omega
   rcases e with e|e|e <;> rw[e] <;> decide
  ·simp only[List.getD_cons_zero];rw[lead_and hu (by omega) hc];refine wpL_loop [2,3,4,29,30,31,32,33,34,35,36,37,38,39,40,41,42,43,44,45,46] (fun z wx=>∃i p:Nat,z 4=.int .i64 i∧z 2=.int .i64 p∧z 3=.int .i64 (usize c.toNat)∧1≤i∧i≤usize c.toNat∧p<256*64 ^ (i - 1) ∧
    urd (((c :: s').take (usize c.toNat)).drop i) p=urd (((c :: s').take (usize c.toNat)).drop 1) (ulead (usize c.toNat) c.toNat)∧Below w'.heap.size w' wx) (fun z _=>usize c.toNat - (intOf (z 4)).toNat) ?_ ?_
   ·exact⟨1,_,rfl,rfl,rfl,Nat.le_refl _,by omega,by simpa using ulead_lt hc,rfl,(Below.refl _ _).drew⟩
   ·intro z wx hI;obtain⟨i,p,h4,h2',h3',hi1,hi2,hp,hr,hb⟩:=hI;have hgn:=(hg.below hb) (usize c.toNat) (by omega);simp -dsimp only[push_cast,Nat.reduceAdd,Nat.reduceLeDiff,Nat.reduceBEq,Int.reduceNe,Int.reduceEq,Int.reduceLT,Int.reduceLE,h4,h2',h3',hgn];obtain⟨hA,hB⟩:=first_walk h1 h2 hi1 hp hi2 hr;refine⟨fun hlt=>?_,fun hge=>?_⟩
    ·obtain⟨hA1,hA2⟩:=hA (by omega);refine⟨⟨by omega,by omega⟩,fun hx=>⟨by rw[hA1 hx];rfl,hb⟩,fun hx=>?_⟩;obtain⟨q,hq1,hq2,hq3⟩:=hA2 hx;exact⟨⟨by omega,by omega⟩,⟨by omega,by omega⟩,⟨i+1,q,rfl,congrArg _ hq1,by omega,by omega,hq2,hq3,hb⟩,by simp only[intOf];omega⟩
    ·have hB:=hB (by omega);rw[hB];simp only[ubad];refine⟨⟨by omega,by omega⟩,?_⟩
     repeat' first|apply And.intro|intro _
     all_goals first|exact hb|omega|skip
     all_goals grind
 ·rename_i h1 h2 h3;refine wpL_loop [2,3,4,29,30,31,32,33,34,35,36,37,38,39,40,41,42,43,44,45,46] (fun z wx=>∃i p:Nat,z 4=.int .i64 i∧z 2=.int .i64 p∧z 3=.int .i64 (usize c.toNat)∧1≤i∧i≤usize c.toNat∧p<256*64 ^ (i - 1) ∧
   urd (((c :: s').take (usize c.toNat)).drop i) p=urd (((c :: s').take (usize c.toNat)).drop 1) (ulead (usize c.toNat) c.toNat)∧Below w'.heap.size w' wx) (fun z _=>usize c.toNat - (intOf (z 4)).toNat) ?_ ?_
  ·refine⟨1,_,rfl,?_,rfl,Nat.le_refl _,by omega,by simpa using ulead_lt hc,rfl,Below.refl _ _⟩;have e:ulead (usize c.toNat) c.toNat=c.toNat:=by unfold ulead;rw[if_neg (by omega)]
   rw[e];exact congrArg _ (wrap_i64_nat (by omega))
  ·intro z wx hI;obtain⟨i,p,h4,h2',h3',hi1,hi2,hp,hr,hb⟩:=hI;have hgn:=(hg.below hb) (usize c.toNat) (by omega);simp -dsimp only[push_cast,Nat.reduceAdd,Nat.reduceLeDiff,Nat.reduceBEq,Int.reduceNe,Int.reduceEq,Int.reduceLT,Int.reduceLE,h4,h2',h3',hgn];obtain⟨hA,hB⟩:=first_walk h1 h2 hi1 hp hi2 hr;refine⟨fun hlt=>?_,fun hge=>?_⟩
   ·obtain⟨hA1,hA2⟩:=hA (by omega);refine⟨⟨by omega,by omega⟩,fun hx=>⟨by rw[hA1 hx];rfl,hb⟩,fun hx=>?_⟩;obtain⟨q,hq1,hq2,hq3⟩:=hA2 hx;exact⟨⟨by omega,by omega⟩,⟨by omega,by omega⟩,⟨i+1,q,rfl,congrArg _ hq1,by omega,by omega,hq2,hq3,hb⟩,by simp only[intOf];omega⟩
   ·have hB:=hB (by omega);rw[hB];simp only[ubad];refine⟨⟨by omega,by omega⟩,?_⟩
    repeat' first|apply And.intro|intro _
    all_goals first|exact hb|omega|skip
    all_goals grind
 ·rename_i h1;have e:ufirst (c :: s')=(0,0):=by unfold ufirst;simp;intro h3;omega
  rw[e];rfl
def encU (u:U):List Value:=[.int .i64 u.p,.int .i64 u.at_,.int .i64 u.n]
theorem decode_c (s:List UInt8) (hs:s.length<1000000) (w:World) (hg:Least w) :
  Fun Tryz.prog 14 [str s] w fun v w'=>Vc.Own w.heap.size 100 3 encU w' v (udec 0 s)∧Below w.heap.size w w':=by
 refine fun_of_vc Tryz.func14 rfl (by kernel_rfl) [2] rfl ?_;simp -dsimp (maxSteps:=4000000) only[push_cast,fr0,Tryz.ntmps14,List.length_cons,List.length_nil,Nat.reduceAdd,Nat.reduceSub,Nat.reduceBEq,List.replicate_succ,List.replicate_zero]
 refine wpL_loop [3,4,5,6,7,8,9,10,11,12,13,14,15,16,17,18,19,20,21,22,23,24,25,26,27,28,29] (fun z wx=>∃(i:Nat) (acc:List U),z 4=.int .i64 i∧i≤s.length∧acc.length≤i∧acc++udec i (s.drop i)=udec 0 s ∧
  Vc.Own w.heap.size 100 3 encU wx (z 3) acc∧Below w.heap.size w wx) (fun z _=>s.length - (intOf (z 4)).toNat) ?_ ?_
 ·exact⟨0,[],rfl,Nat.zero_le _,Nat.le_refl _,rfl,Vc.Own.nil (enc:=encU) _ _ (fun _=>rfl) _,Below.refl _ _⟩
 ·intro z wx hI;obtain⟨i,acc,h4,hi,ha,hd,ho,hb⟩:=hI;simp -dsimp only[push_cast,Nat.reduceAdd,Nat.reduceLeDiff,Nat.reduceBEq,Int.reduceNe,Int.reduceEq,Int.reduceLT,Int.reduceLE,h4];refine⟨fun hlt=>⟨⟨by omega,by omega⟩,?_⟩,fun hge=>?_⟩
  ·have hne:s.drop i≠[]:=by intro h;have:=congrArg List.length h;simp only[List.length_drop,List.length_nil]at this;omega
   refine callK_of (first_c (s.drop i) (by rw[List.length_drop];omega) hne wx (hg.below hb)) ?_;rintro v w1 ⟨rfl,hb1⟩;simp -dsimp only[push_cast,Nat.reduceAdd,Nat.reduceLeDiff,Nat.reduceBEq,Int.reduceNe,Int.reduceEq,Int.reduceLT,Int.reduceLE];have hst:=ustep_le (s.drop i) hne;have hsp:=ustep_pos (s.drop i);have hu:=ufirst_le (s.drop i);have hcons:=udec_cons i (s.drop i) hne
   refine⟨fun h0=>?_,fun h0=>?_⟩
   ·have e:ustep (s.drop i)=(65533,1):=by unfold ustep;rw[if_pos (by omega)]
    refine rowK elI_51 rfl rfl (by omega) ?_;intro w2 hw2;simp -dsimp only[push_cast,Nat.reduceAdd,Nat.reduceLeDiff,Nat.reduceBEq,Int.reduceNe,Int.reduceEq,Int.reduceLT,Int.reduceLE]
    refine appendK (ys:=[⟨65533,i,1⟩]) (enc:=encU) elI_51 ((ho.below hb1).below hw2.below) (fun j u hu=>by simpa using hw2.cell hu) (by simp[encU,Value.oneCell']) (by simp only[List.length_cons,List.length_nil];omega) (by have:=hb.size;have:=hb1.size;have:=hw2.size;omega) ?_;intro v' w3 ho3 _ hb3
    simp -dsimp only[push_cast,Nat.reduceAdd,Nat.reduceLeDiff,Nat.reduceBEq,Int.reduceNe,Int.reduceEq,Int.reduceLT,Int.reduceLE];refine⟨⟨by omega,by omega⟩,⟨i+1,_,rfl,by rw[List.length_drop]at hst;rw[e]at hst;(try dsimp only at hst);omega,?_,?_,ho3,
     (hb.trans (hb1.mono hb.size)).trans ((hw2.below.mono (Nat.le_trans hb.size hb1.size)).trans hb3)⟩,?_⟩
    ·rw[e]at hsp;simp only[List.length_append,List.length_cons,List.length_nil];(try dsimp only at hsp);omega
    ·rw[←hd,hcons,e,List.drop_drop,List.append_assoc];rfl
    ·rw[e]at hsp;rw[h4];simp only[intOf];(try dsimp only at hsp);omega
   ·have e:ustep (s.drop i)=ufirst (s.drop i):=by unfold ustep;rw[if_neg (by omega)]
    refine rowK elI_51 rfl rfl (by omega) ?_;intro w2 hw2;simp -dsimp only[push_cast,Nat.reduceAdd,Nat.reduceLeDiff,Nat.reduceBEq,Int.reduceNe,Int.reduceEq,Int.reduceLT,Int.reduceLE]
    refine appendK (ys:=[⟨(ufirst (s.drop i)).1,i,(ufirst (s.drop i)).2⟩]) (enc:=encU) elI_51 ((ho.below hb1).below hw2.below) (fun j u hu=>by simpa using hw2.cell hu) (by simp[encU,Value.oneCell']) (by simp only[List.length_cons,List.length_nil];omega) (by have:=hb.size;have:=hb1.size;have:=hw2.size;omega) ?_;intro v' w3 ho3 _ hb3
    simp -dsimp only[push_cast,Nat.reduceAdd,Nat.reduceLeDiff,Nat.reduceBEq,Int.reduceNe,Int.reduceEq,Int.reduceLT,Int.reduceLE];refine⟨⟨by omega,by omega⟩,⟨i+(ufirst (s.drop i)).2,_,rfl,by rw[List.length_drop]at hst;rw[e]at hst;(try dsimp only at hst);omega,?_,?_,ho3,
     (hb.trans (hb1.mono hb.size)).trans ((hw2.below.mono (Nat.le_trans hb.size hb1.size)).trans hb3)⟩,?_⟩
    ·rw[e]at hsp;simp only[List.length_append,List.length_cons,List.length_nil];(try dsimp only at hsp);omega
    ·rw[←hd,hcons,e,List.drop_drop,List.append_assoc];rfl
    ·rw[e]at hsp;rw[h4];simp only[intOf];(try dsimp only at hsp);omega
  ·have e:s.drop i=[]:=List.drop_eq_nil_of_le (by omega);rw[e,udec_nil,List.append_nil]at hd;rw[←hd];exact⟨ho,hb⟩
def ptsU (us:List U):List Int:=us.map fun u=>(u.p:Int)
theorem ptsU_len (us:List U):(ptsU us).length=us.length:=by simp[ptsU]
theorem ptsU_get {us:List U} {i:Nat} {u:U} (h:us[i]?=some u):(ptsU us)[i]?=some (u.p:Int):=by unfold ptsU;rw[List.getElem?_map,h];rfl
def hasN (nm:NamesP) (k:KindP) (p:Int):Prop:=∃s,kindS nm k=.ok s∧hasP s p=true
structure Mr (X:Nat→Prop) (w:World) (rb mb:Nat) (us:List U) (nm:NamesP) (back:Bool):Prop where
 st:∃lv,Blk w rb 106 [lv,.map (some mb),.bool back]∧Sl X 3 (En encU) w lv us
 nv:NamV X w mb nm
 rt:RightN nm
 len:us.length≤1000
theorem Mr.below {X:Nat→Prop} {w w':World} {rb mb:Nat} {us:List U} {nm:NamesP} {back:Bool} (h:Mr X w rb mb us nm back) (hb:Below w.heap.size w w'):Mr X w' rb mb us nm back:=by
 obtain⟨lv,h1,h2⟩:=h.st;exact⟨⟨lv,h1.below hb h1.lt,h2.below hb⟩,h.nv.below hb,h.rt,h.len⟩
theorem below_drewM (w:World):Below w.heap.size w w.drew:=((Kept.refl (fun _=>False) w).drew).below (Nat.le_refl _) (fun _ h=>h.elim)
def StepR (pts:List Int) (back:Bool) (i:Nat) (r:Value):Prop:=(∃(j:Nat) (p:Int),stepM pts back i=some (j,p)∧r=.tuple #[.int .i64 j,.int .i64 p])∨(stepM pts back i=none∧r=.tuple #[.int .i64 (-1),.int .i64 0])
theorem step_c {X:Nat→Prop} {w:World} {rb mb:Nat} {us:List U} {nm:NamesP} {back:Bool} (h:Mr X w rb mb us nm back) (i:Nat) (hi:i≤us.length) :
  Fun Tryz.prog 70 [.pointer (some ⟨rb,0,none⟩),.int .i64 i] w fun r w'=>StepR (ptsU us) back i r∧Below w.heap.size w w':=by
 have hlen:=h.len;obtain⟨lv,hB,hs⟩:=h.st;obtain⟨la,lc,rfl,hlc⟩:=hs.shape;have d0:w.cell? ⟨rb,0,none⟩=some (.slice la us.length lc):=hB.cell rfl;have d2:w.cell? ⟨rb,2,none⟩=some (.bool back):=hB.cell rfl;have d0d:w.drew.cell? ⟨rb,0,none⟩=some (.slice la us.length lc):=d0;cases back with
 | true =>
  (refine fun_of_vc Tryz.func70 rfl (by kernel_rfl) [4,5] rfl ?_;simp -dsimp (maxSteps:=4000000) only[push_cast,fr0,Tryz.ntmps70,List.length_cons,List.length_nil,Nat.reduceAdd,Nat.reduceSub,Nat.reduceBEq,List.replicate_succ,List.replicate_zero]);simp -dsimp only[push_cast,Nat.reduceAdd,Nat.reduceLeDiff,Nat.reduceBEq,Int.reduceNe,Int.reduceEq,Int.reduceLT,Int.reduceLE,d2]
  refine⟨fun h0=>⟨.inr ⟨?_,rfl⟩,Below.refl _ _⟩,fun h0=>?_⟩
  ·have:i=0:=by omega
   subst this;simp[stepM]
  ·obtain⟨u,hu⟩:∃u,us[i - 1]?=some u:=⟨us[i - 1]'(by omega),List.getElem?_eq_getElem (by omega)⟩;obtain⟨b,o,rfl,hX,hcell⟩:=hs.get hu;have c0:w.cell? ⟨b,o+(i - 1)*3,none⟩=some (.int .i64 u.p):=by simpa using hcell 0 _ rfl
   have c0d:w.drew.cell? ⟨b,o+(i - 1)*3,none⟩=some (.int .i64 u.p):=c0;have tn:((i:Int) - 1).toNat=i - 1:=by omega
   refine wpL_drawN (fun w'=>∀a,w'.cell? a=w.cell? a) mixed (by kernel_rfl) (fun _=>rfl) ?_;simp -dsimp only[push_cast,Nat.reduceAdd,Nat.reduceLeDiff,Nat.reduceBEq,Int.reduceNe,Int.reduceEq,Int.reduceLT,Int.reduceLE,d0d,tn,c0d];have ei:((i:Int) - 1)=((i - 1:Nat):Int):=by omega
   refine⟨⟨by omega,by omega⟩,fun w'' h=>by rw[h,d0];exact rfl,⟨by omega,by omega⟩,⟨by omega,by omega⟩,fun w'' h=>by rw[h,c0];exact rfl,.inl ⟨i - 1,u.p,?_,by rw[ei]⟩,below_drewM w⟩;unfold stepM;rw[if_pos rfl,if_neg (by omega),ptsU_get hu];rfl
 | false =>
  (refine fun_of_vc Tryz.func70 rfl (by kernel_rfl) [4,5] rfl ?_;simp -dsimp (maxSteps:=4000000) only[push_cast,fr0,Tryz.ntmps70,List.length_cons,List.length_nil,Nat.reduceAdd,Nat.reduceSub,Nat.reduceBEq,List.replicate_succ,List.replicate_zero]);simp -dsimp only[push_cast,Nat.reduceAdd,Nat.reduceLeDiff,Nat.reduceBEq,Int.reduceNe,Int.reduceEq,Int.reduceLT,Int.reduceLE,d2,d0]
  refine⟨fun h0=>⟨.inr ⟨?_,rfl⟩,Below.refl _ _⟩,fun h0=>?_⟩
  ·unfold stepM;rw[if_neg (by simp),List.getElem?_eq_none (by rw[ptsU_len];omega)];rfl
  ·obtain⟨u,hu⟩:∃u,us[i]?=some u:=⟨us[i]'(by omega),List.getElem?_eq_getElem (by omega)⟩;obtain⟨b,o,rfl,hX,hcell⟩:=hs.get hu;have c0:w.cell? ⟨b,o+i*3,none⟩=some (.int .i64 u.p):=by simpa using hcell 0 _ rfl
   have c0d:w.drew.cell? ⟨b,o+i*3,none⟩=some (.int .i64 u.p):=c0;refine wpL_drawN (fun w'=>∀a,w'.cell? a=w.cell? a) mixed (by kernel_rfl) (fun _=>rfl) ?_;simp -dsimp only[push_cast,Nat.reduceAdd,Nat.reduceLeDiff,Nat.reduceBEq,Int.reduceNe,Int.reduceEq,Int.reduceLT,Int.reduceLE,d0d,c0d];have ei:((i:Int)+1)=((i+1:Nat):Int):=by omega
   refine⟨⟨by omega,by omega⟩,fun w'' h=>by rw[h,d0];exact rfl,⟨by omega,by omega⟩,fun w'' h=>by rw[h,c0];exact rfl,.inl ⟨i+1,u.p,?_,by rw[ei]⟩,below_drewM w⟩;unfold stepM;rw[if_neg (by simp),ptsU_get hu];rfl
theorem has_c2 {X:Nat→Prop} {w:World} {rb mb:Nat} {us:List U} {nm:NamesP} {back:Bool} (h:Mr X w rb mb us nm back) (k:KindP) (hk:KindOk k) (v:Value) (hv:KindV X w v k) (p:Int) :
  Fun Tryz.prog 71 [.pointer (some ⟨rb,0,none⟩),v,.int .i64 p] w fun r w'=>(∃b:Bool,r=.bool b∧(b=true↔hasN nm k p))∧Below w.heap.size w w':=by
 obtain⟨lv,hB,hs⟩:=h.st;have d1:w.cell? ⟨rb,1,none⟩=some (.map (some mb)):=hB.cell rfl;refine fun_of_vc Tryz.func71 rfl (by kernel_rfl) [6] rfl ?_;simp -dsimp (maxSteps:=4000000) only[push_cast,fr0,Tryz.ntmps71,List.length_cons,List.length_nil,Nat.reduceAdd,Nat.reduceSub,Nat.reduceBEq,List.replicate_succ,List.replicate_zero]
 simp -dsimp only[push_cast,Nat.reduceAdd,Nat.reduceLeDiff,Nat.reduceBEq,Int.reduceNe,Int.reduceEq,Int.reduceLT,Int.reduceLE,d1];refine callK_of (ckind_c k hk nm h.rt X v mb w hv h.nv) ?_;rintro r w1 ⟨hR,hb1⟩;have z1:=hb1.size;unfold KindRes at hR;cases hks:kindS nm k with
 | ok s =>
  rw[hks]at hR;obtain⟨v1,rfl,hs1,ha1⟩:=hR;have hrs:=kindS_right h.rt hk hks;have hls:=right_len hrs;obtain⟨_,_,rfl,_⟩:=hs1.shape;simp -dsimp only[push_cast,Nat.reduceAdd,Nat.reduceLeDiff,Nat.reduceBEq,Int.reduceNe,Int.reduceEq,Int.reduceLT,Int.reduceLE];refine callK_of (has_c s (by omega) hrs p _ _ w1 hs1) ?_;rintro _ w2 ⟨rfl,hb2⟩
  simp -dsimp only[push_cast,Nat.reduceAdd,Nat.reduceLeDiff,Nat.reduceBEq,Int.reduceNe,Int.reduceEq,Int.reduceLT,Int.reduceLE];exact⟨⟨_,rfl,fun hh=>⟨s,hks,hh⟩,fun⟨t,ht,hh⟩=>by rw[hks]at ht;cases ht;exact hh⟩,hb1.trans (hb2.mono z1)⟩
 | error e =>
  rw[hks]at hR;obtain⟨eb,heb,rfl,hE⟩:=hR;simp -dsimp only[push_cast,Nat.reduceAdd,Nat.reduceLeDiff,Nat.reduceBEq,Int.reduceNe,Int.reduceEq,Int.reduceLT,Int.reduceLE];refine⟨⟨false,rfl,?_⟩,hb1⟩;constructor
  ·intro hh;cases hh
  ·rintro⟨t,ht,hh⟩;rw[hks]at ht;cases ht
end Go.Proofs.YtledlfbbebodgaaGreatDoor
end
section
namespace Cae
open Classical
noncomputable def stepF (P:Int→Prop) (pts:List Int) (back:Bool) (i:Nat):Option Nat:=match stepM pts back i with
 | some (j,p)=>if P p then some j else none
 | none=>none
theorem stepF_mem {P:Int→Prop} {pts:List Int} {back:Bool} {l:List Nat} {j:Nat}:j∈l.filterMap (stepF P pts back)↔∃i∈l,∃p,stepM pts back i=some (j,p)∧P p:=by
 rw[List.mem_filterMap];refine exists_congr fun i=>and_congr Iff.rfl ?_;unfold stepF;cases h:stepM pts back i with
 | none=>simp
 | some q =>
  obtain⟨k,p⟩:=q;by_cases hp:P p
  ·simp[hp];constructor
   ·intro hkj;exact⟨p,⟨hkj,rfl⟩,hp⟩
   ·rintro⟨p',⟨h1,_⟩,_⟩;exact h1
  ·simp[hp]
end Cae
namespace Go.Proofs.YtledlfbbebodgaaGreatDoor
open Go.Vc Go.Proofs Go.RowKit Cae
attribute [local irreducible] wpL callK valK unitK runK Fun Sl Vc.Own vc vcOps opK pureK
def AllC (x:PatP):Prop:=PatOk x→wd x≤100000→∀(X:Nat→Prop) (w:World) (rb mb:Nat) (us:List U) (nm:NamesP) (back:Bool),Mr X w rb mb us nm back→∀(v:Value),PatV X w v x→∀(fv:Value) (from_:List Nat),Sl (fun _=>False) 1 (En encN) w fv from_→Arg fv→from_.Pairwise (·<·)→(∀i∈from_,i≤us.length) →
 Fun Tryz.prog 46 [.pointer (some ⟨rb,0,none⟩),v,fv] w fun r w'=>Vc.Own w.heap.size 3 1 encN w' r (imgM us.length (Rch (hasN nm) (ptsU us) back x) from_)∧Below w.heap.size w w'
theorem intsN_inj {a b:List Nat} (h:intsN a=intsN b):a=b:=by
 have:=congrArg (List.map Int.toNat) h;unfold intsN at this;rw[List.map_map,List.map_map]at this;have e:(Int.toNat ∘ fun n:Nat=>(n:Int))=id:=funext fun n=>by simp
 rw[e,List.map_id,List.map_id]at this;exact this
theorem fin_is {N:Nat} {R:Nat→Nat→Prop} {from_ L m1 m2:List Nat} (h1:intsN m1=((intsN L).mergeSort fun x y=>decide (x≤y))) (h2:intsN m2=Lib.compact (intsN m1)) (hm:∀j,j∈L↔j≤N∧∃i∈from_,R i j):m2=imgM N R from_:=by
 obtain⟨m,e,hp,hmem⟩:=sorted_compact L;rw[←h1,←h2]at e;have e:=intsN_inj e;subst e;exact imgM_of hp fun j=>by rw[hmem j,hm j]
theorem fin_len {L m1:List Nat} (h1:intsN m1=((intsN L).mergeSort fun x y=>decide (x≤y))):m1.length=L.length:=by
 have:=congrArg List.length h1;rw[(List.mergeSort_perm _ _).length_eq]at this;simpa[intsN] using this
theorem all_edge : AllC .edge := by
  intro hok hpn X w rb mb us nm back h v hV fv from_ hf ha hr hle
  have hlen := h.len
  have hfl := rise_len hr hle
  simp only [PatV] at hV
  obtain ⟨b, rfl, hb, hB⟩ := hV
  obtain ⟨fa, fc, rfl, hfc⟩ := hf.shape
  have d0 : w.cell? ⟨b, 0, none⟩ = some (.int .i64 3) := hB.cell rfl
  refine fun_of_vc Tryz.func46 rfl (by kernel_rfl) [6] rfl ?_
  simp -dsimp (maxSteps := 4000000) only [push_cast, fr0, Tryz.ntmps46, List.length_cons, List.length_nil, Nat.reduceAdd, Nat.reduceSub, Nat.reduceBEq, List.replicate_succ, List.replicate_zero]
  simp -dsimp only [push_cast, Nat.reduceAdd, Nat.reduceLeDiff, Nat.reduceBEq, Int.reduceNe, Int.reduceEq, Int.reduceLT, Int.reduceLE, d0]
  refine wpL_loop [7, 13, 14, 15, 70, 71, 72, 73, 74, 75, 76, 77, 78, 79, 80, 81, 82, 83, 84, 85, 86] (fun z wx => ∃ (i : Nat) (ov : Value), z 70 = .int .i64 i ∧ z 7 = ov ∧ i ≤ from_.length ∧ Vc.Own w.heap.size 3 1 encN wx ov ((from_.take i).filter fun a => (stepM (ptsU us) back a).isNone) ∧ Below w.heap.size w wx) (fun z _ => from_.length - (intOf (z 70)).toNat) ?_ ?_
  · exact ⟨0, _, rfl, rfl, Nat.zero_le _, Vc.Own.nil (enc := encN) _ _ (fun _ => rfl) _, Below.refl _ _⟩
  · intro z wx hI
    obtain ⟨i, ov, h70, h7, hi, hO, hbx⟩ := hI
    have zx := hbx.size
    simp -dsimp only [push_cast, Nat.reduceAdd, Nat.reduceLeDiff, Nat.reduceBEq, Int.reduceNe, Int.reduceEq, Int.reduceLT, Int.reduceLE, h70, h7]
    refine ⟨fun hlt => ?_, fun hge => ?_⟩
    · obtain ⟨a, hx, hxm, _, ht⟩ := lt_get (l := from_) (i := i) (by omega)
      obtain ⟨b1, o, rfl, hnb, hcell⟩ := (hf.below hbx).get hx
      have c0 : wx.cell? ⟨b1, o + i, none⟩ = some (.int .i64 (a : Int)) := by simpa [encN] using hcell 0 _ rfl
      simp -dsimp only [push_cast, Nat.reduceAdd, Nat.reduceLeDiff, Nat.reduceBEq, Int.reduceNe, Int.reduceEq, Int.reduceLT, Int.reduceLE, c0, Nat.mul_one]
      refine ⟨⟨by omega, by omega⟩, ?_⟩
      refine callK_of (step_c (h.below hbx) a (hle a hxm)) ?_
      rintro r wy ⟨hS, hby⟩
      have zy := hby.size
      have hbwy := hbx.trans (hby.mono zx)
      obtain ⟨oa, oc, rfl⟩ := hO.slice
      have hOy := hO.below hby
      have hlL : ((from_.take i).filter fun a => (stepM (ptsU us) back a).isNone).length ≤ i := by
        have := List.length_filter_le (fun a => (stepM (ptsU us) back a).isNone) (from_.take i)
        rw [List.length_take] at this
        omega
      rcases hS with ⟨j, p, hst, rfl⟩ | ⟨hst, rfl⟩
      · simp -dsimp only [push_cast, Nat.reduceAdd, Nat.reduceLeDiff, Nat.reduceBEq, Int.reduceNe, Int.reduceEq, Int.reduceLT, Int.reduceLE]
        refine ⟨fun hneg => by omega, fun _ => ⟨⟨by omega, by omega⟩, ⟨i + 1, _, rfl, rfl, by omega, ?_, hbwy⟩, by rw [h70]; simp only [intOf]; omega⟩⟩
        rw [ht, List.filter_append, List.filter_cons_of_neg (by simp [hst]), List.filter_nil, List.append_nil]
        exact hOy
      · simp -dsimp only [push_cast, Nat.reduceAdd, Nat.reduceLeDiff, Nat.reduceBEq, Int.reduceNe, Int.reduceEq, Int.reduceLT, Int.reduceLE]
        refine rowK elI_53 rfl rfl (by omega) ?_
        intro w5 hw5
        have z5 := hw5.size
        have hO5 := hOy.new hw5
        simp -dsimp only [push_cast, Nat.reduceAdd, Nat.reduceLeDiff, Nat.reduceBEq, Int.reduceNe, Int.reduceEq, Int.reduceLT, Int.reduceLE]
        refine appendK2 (base := w.heap.size) [a] (enc := encN) elI_53 hO5 (by rfl) (fun j u hu => by rw [Nat.zero_add]; exact hw5.cell hu) (by simp [encN, Value.oneCell']) (by simp only [List.length_cons, List.length_nil]; omega) (by omega) ?_
        intro v6 w6 hO6 hg6 hn6
        have hb6 : Below w.heap.size w w6 := (hbwy.trans (hw5.below.mono (by omega))).trans ((Kept.grown (X := fun j => w.heap.size ≤ j) hg6 (fun k hk => (hO5.block k hk).1)).below (by omega) (fun _ h => h))
        simp -dsimp only [push_cast, Nat.reduceAdd, Nat.reduceLeDiff, Nat.reduceBEq, Int.reduceNe, Int.reduceEq, Int.reduceLT, Int.reduceLE]
        refine ⟨⟨by omega, by omega⟩, ⟨i + 1, _, rfl, rfl, by omega, ?_, hb6⟩, by rw [h70]; simp only [intOf]; omega⟩
        rw [ht, List.filter_append, List.filter_cons_of_pos (by simp [hst]), List.filter_nil]
        exact hO6
    · rw [List.take_of_length_le (by omega)] at hO
      have hlL := List.length_filter_le (fun a => (stepM (ptsU us) back a).isNone) from_
      have hmem : ∀ j, j ∈ (from_.filter fun a => (stepM (ptsU us) back a).isNone) ↔ j ≤ us.length ∧ ∃ i ∈ from_, Rch (hasN nm) (ptsU us) back .edge i j := fun j => by
        rw [List.mem_filter, Option.isNone_iff_eq_none]
        simp only [Rch]
        constructor
        · rintro ⟨h1, h2⟩
          exact ⟨hle j h1, j, h1, rfl, h2⟩
        · rintro ⟨_, i, h1, rfl, h2⟩
          exact ⟨h1, h2⟩
      -- wx: the world; (hO.sl.weaken (fun _ h => h.elim)): Sl; hO.nilArg: Arg; (from_.filter fun a => (stepM (ptsU us) back a).isNone): the list; hbx: Below w wx; hmem: what it holds
      have hbF := hbx
      have zF := hbF.size
      refine callK_of (cloneN_c (from_.filter fun a => (stepM (ptsU us) back a).isNone) (by omega) (fun _ => False) _ (wx) (hO.sl.weaken (fun _ h => h.elim)) hO.nilArg) ?_
      rintro vc wc ⟨hoc, hbc⟩
      have zc := hbc.size
      simp -dsimp only [push_cast, Nat.reduceAdd, Nat.reduceLeDiff, Nat.reduceBEq, Int.reduceNe, Int.reduceEq, Int.reduceLT, Int.reduceLE]
      refine callK_of (sortN_c (from_.filter fun a => (stepM (ptsU us) back a).isNone) (by omega) _ vc wc hoc) ?_
      rintro _ wd ⟨⟨m1, hm1, hod⟩, hkd⟩
      have zd := hkd.size
      have hfl := fin_len hm1
      simp -dsimp only [push_cast, Nat.reduceAdd, Nat.reduceLeDiff, Nat.reduceBEq, Int.reduceNe, Int.reduceEq, Int.reduceLT, Int.reduceLE]
      refine callK_of (compactN_c m1 (by omega) _ vc wd hod) ?_
      rintro vr we ⟨⟨m2, hm2, hoe, howne⟩, hke⟩
      have hfi := fin_is hm1 hm2 hmem
      subst hfi
      simp -dsimp only [push_cast, Nat.reduceAdd, Nat.reduceLeDiff, Nat.reduceBEq, Int.reduceNe, Int.reduceEq, Int.reduceLT, Int.reduceLE]
      exact ⟨hoe.mono zF, hbF.trans ((hbc.mono zF).trans ((hkd.below (by omega) (fun i h => by have := hoc.block i h; omega)).trans (hke.below (by omega) (fun i h => by have := hoc.block i h; omega))))⟩
theorem all_any : AllC .any := by
  intro hok hpn X w rb mb us nm back h v hV fv from_ hf ha hr hle
  have hlen := h.len
  have hfl := rise_len hr hle
  simp only [PatV] at hV
  obtain ⟨b, rfl, hb, hB⟩ := hV
  obtain ⟨fa, fc, rfl, hfc⟩ := hf.shape
  have d0 : w.cell? ⟨b, 0, none⟩ = some (.int .i64 2) := hB.cell rfl
  refine fun_of_vc Tryz.func46 rfl (by kernel_rfl) [6] rfl ?_
  simp -dsimp (maxSteps := 4000000) only [push_cast, fr0, Tryz.ntmps46, List.length_cons, List.length_nil, Nat.reduceAdd, Nat.reduceSub, Nat.reduceBEq, List.replicate_succ, List.replicate_zero]
  simp -dsimp only [push_cast, Nat.reduceAdd, Nat.reduceLeDiff, Nat.reduceBEq, Int.reduceNe, Int.reduceEq, Int.reduceLT, Int.reduceLE, d0]
  -- 2: the code; (fun _ => True): what points are right; .any: pattern
  refine wpL_loop [7, 9, 10, 11, 33, 34, 35, 36, 37, 38, 39, 40, 41, 42, 43, 44, 45, 46, 47, 48, 49, 50, 51, 52, 53, 54, 55, 56, 57, 58, 59, 60, 61, 62, 63, 64, 65] (fun z wx => ∃ (i : Nat) (ov : Value), z 33 = .int .i64 i ∧ z 7 = ov ∧ i ≤ from_.length ∧ Vc.Own w.heap.size 3 1 encN wx ov ((from_.take i).filterMap (stepF (fun _ => True) (ptsU us) back)) ∧ Below w.heap.size w wx) (fun z _ => from_.length - (intOf (z 33)).toNat) ?_ ?_
  · exact ⟨0, _, rfl, rfl, Nat.zero_le _, Vc.Own.nil (enc := encN) _ _ (fun _ => rfl) _, Below.refl _ _⟩
  · intro z wx hI
    obtain ⟨i, ov, h33, h7, hi, hO, hbx⟩ := hI
    have zx := hbx.size
    have hBx := hB.below hbx hB.lt
    have f0 : wx.cell? ⟨b, 0, none⟩ = some (.int .i64 2) := hBx.cell rfl
    simp -dsimp only [push_cast, Nat.reduceAdd, Nat.reduceLeDiff, Nat.reduceBEq, Int.reduceNe, Int.reduceEq, Int.reduceLT, Int.reduceLE, h33, h7]
    refine ⟨fun hlt => ?_, fun hge => ?_⟩
    · obtain ⟨a, hx, hxm, _, ht⟩ := lt_get (l := from_) (i := i) (by omega)
      obtain ⟨b1, o, rfl, hnb, hcell⟩ := (hf.below hbx).get hx
      have c0 : wx.cell? ⟨b1, o + i, none⟩ = some (.int .i64 (a : Int)) := by simpa [encN] using hcell 0 _ rfl
      simp -dsimp only [push_cast, Nat.reduceAdd, Nat.reduceLeDiff, Nat.reduceBEq, Int.reduceNe, Int.reduceEq, Int.reduceLT, Int.reduceLE, c0, Nat.mul_one]
      refine ⟨⟨by omega, by omega⟩, ?_⟩
      refine callK_of (step_c (h.below hbx) a (hle a hxm)) ?_
      rintro r wy ⟨hS, hby⟩
      have zy := hby.size
      have hbwy := hbx.trans (hby.mono zx)
      obtain ⟨oa, oc, rfl⟩ := hO.slice
      have hOy := hO.below hby
      have hBy := hBx.below hby hBx.lt
      have g0 : wy.cell? ⟨b, 0, none⟩ = some (.int .i64 2) := hBy.cell rfl
      have hlL : ((from_.take i).filterMap (stepF (fun _ => True) (ptsU us) back)).length ≤ i := by
        have := List.length_filterMap_le (stepF (fun _ => True) (ptsU us) back) (from_.take i)
        rw [List.length_take] at this
        omega
      have tk : (from_.take (i + 1)).filterMap (stepF (fun _ => True) (ptsU us) back) = (from_.take i).filterMap (stepF (fun _ => True) (ptsU us) back) ++ (stepF (fun _ => True) (ptsU us) back a).toList := by
        rw [ht, List.filterMap_append]
        exact congrArg _ (by cases hq : stepF (fun _ => True) (ptsU us) back a <;> simp [List.filterMap_cons, hq])
      rcases hS with ⟨j, p, hst, rfl⟩ | ⟨hst, rfl⟩
      · skip
        have hF : stepF (fun _ => True) (ptsU us) back a = some j := by unfold stepF; rw [hst]; simp
        simp -dsimp only [push_cast, Nat.reduceAdd, Nat.reduceLeDiff, Nat.reduceBEq, Int.reduceNe, Int.reduceEq, Int.reduceLT, Int.reduceLE, g0]
        refine ⟨fun _ => ?_, fun hn => by omega⟩
        -- wy: the world; hOy: Vc.Own at it; hbwy: Below w wy
        refine rowK elI_53 rfl rfl (by omega) ?_
        intro w5 hw5
        have z5 := hw5.size
        have hb3 := hbwy
        have zb3 := hb3.size
        have hO5 := (hOy).new hw5
        simp -dsimp only [push_cast, Nat.reduceAdd, Nat.reduceLeDiff, Nat.reduceBEq, Int.reduceNe, Int.reduceEq, Int.reduceLT, Int.reduceLE]
        refine appendK2 (base := w.heap.size) [j] (enc := encN) elI_53 hO5 (by rfl) (fun j u hu => by rw [Nat.zero_add]; exact hw5.cell hu) (by simp [encN, Value.oneCell']) (by simp only [List.length_cons, List.length_nil]; omega) (by omega) ?_
        intro v6 w6 hO6 hg6 hn6
        have hb6 : Below w.heap.size w w6 := (hb3.trans (hw5.below.mono (by omega))).trans ((Kept.grown (X := fun j => w.heap.size ≤ j) hg6 (fun k hk => (hO5.block k hk).1)).below (by omega) (fun _ h => h))
        rw [hF] at tk
        simp -dsimp only [push_cast, Nat.reduceAdd, Nat.reduceLeDiff, Nat.reduceBEq, Int.reduceNe, Int.reduceEq, Int.reduceLT, Int.reduceLE]
        refine ⟨⟨by omega, by omega⟩, ⟨i + 1, _, rfl, rfl, by omega, ?_, hb6⟩, by rw [h33]; simp only [intOf]; omega⟩
        rw [tk]
        exact hO6
      · have hF : stepF (fun _ => True) (ptsU us) back a = none := by unfold stepF; rw [hst]
        rw [hF] at tk
        simp -dsimp only [push_cast, Nat.reduceAdd, Nat.reduceLeDiff, Nat.reduceBEq, Int.reduceNe, Int.reduceEq, Int.reduceLT, Int.reduceLE]
        refine ⟨⟨by omega, by omega⟩, ⟨i + 1, _, rfl, rfl, by omega, ?_, hbwy⟩, by rw [h33]; simp only [intOf]; omega⟩
        rw [tk]
        simpa using hOy
    · rw [List.take_of_length_le (by omega)] at hO
      have hlL := List.length_filterMap_le (stepF (fun _ => True) (ptsU us) back) from_
      have hmem : ∀ j, j ∈ from_.filterMap (stepF (fun _ => True) (ptsU us) back) ↔ j ≤ us.length ∧ ∃ i ∈ from_, Rch (hasN nm) (ptsU us) back .any i j := fun j => by
        rw [stepF_mem]
        simp only [Rch]
        constructor
        · rintro ⟨i, h1, p, h2, h3⟩
          exact ⟨by have := stepM_le h2 (by rw [ptsU_len]; exact hle i h1); rw [ptsU_len] at this; exact this, i, h1, by first | exact ⟨p, h2, h3⟩ | exact ⟨p, h2⟩⟩
        · rintro ⟨_, i, h1, hh⟩
          first
            | (obtain ⟨p, h2, h3⟩ := hh; exact ⟨i, h1, p, h2, h3⟩)
            | (obtain ⟨p, h2⟩ := hh; exact ⟨i, h1, p, h2, trivial⟩)
      -- wx: the world; (hO.sl.weaken (fun _ h => h.elim)): Sl; hO.nilArg: Arg; (from_.filterMap (stepF (fun _ => True) (ptsU us) back)): the list; hbx: Below w wx; hmem: what it holds
      have hbF := hbx
      have zF := hbF.size
      refine callK_of (cloneN_c (from_.filterMap (stepF (fun _ => True) (ptsU us) back)) (by omega) (fun _ => False) _ (wx) (hO.sl.weaken (fun _ h => h.elim)) hO.nilArg) ?_
      rintro vc wc ⟨hoc, hbc⟩
      have zc := hbc.size
      simp -dsimp only [push_cast, Nat.reduceAdd, Nat.reduceLeDiff, Nat.reduceBEq, Int.reduceNe, Int.reduceEq, Int.reduceLT, Int.reduceLE]
      refine callK_of (sortN_c (from_.filterMap (stepF (fun _ => True) (ptsU us) back)) (by omega) _ vc wc hoc) ?_
      rintro _ wd ⟨⟨m1, hm1, hod⟩, hkd⟩
      have zd := hkd.size
      have hfl := fin_len hm1
      simp -dsimp only [push_cast, Nat.reduceAdd, Nat.reduceLeDiff, Nat.reduceBEq, Int.reduceNe, Int.reduceEq, Int.reduceLT, Int.reduceLE]
      refine callK_of (compactN_c m1 (by omega) _ vc wd hod) ?_
      rintro vr we ⟨⟨m2, hm2, hoe, howne⟩, hke⟩
      have hfi := fin_is hm1 hm2 hmem
      subst hfi
      simp -dsimp only [push_cast, Nat.reduceAdd, Nat.reduceLeDiff, Nat.reduceBEq, Int.reduceNe, Int.reduceEq, Int.reduceLT, Int.reduceLE]
      exact ⟨hoe.mono zF, hbF.trans ((hbc.mono zF).trans ((hkd.below (by omega) (fun i h => by have := hoc.block i h; omega)).trans (hke.below (by omega) (fun i h => by have := hoc.block i h; omega))))⟩
theorem all_one (k : KindP) : AllC (.one k) := by
  intro hok hpn X w rb mb us nm back h v hV fv from_ hf ha hr hle
  have hlen := h.len
  have hfl := rise_len hr hle
  simp only [PatV] at hV
  simp only [PatOk] at hok
  obtain ⟨b, u, rfl, hb, hB, h1⟩ := hV
  obtain ⟨kb, rfl, hkb⟩ := h1.ptr
  obtain ⟨fa, fc, rfl, hfc⟩ := hf.shape
  have d0 : w.cell? ⟨b, 0, none⟩ = some (.int .i64 1) := hB.cell rfl
  refine fun_of_vc Tryz.func46 rfl (by kernel_rfl) [6] rfl ?_
  simp -dsimp (maxSteps := 4000000) only [push_cast, fr0, Tryz.ntmps46, List.length_cons, List.length_nil, Nat.reduceAdd, Nat.reduceSub, Nat.reduceBEq, List.replicate_succ, List.replicate_zero]
  simp -dsimp only [push_cast, Nat.reduceAdd, Nat.reduceLeDiff, Nat.reduceBEq, Int.reduceNe, Int.reduceEq, Int.reduceLT, Int.reduceLE, d0]
  -- 1: the code; (hasN nm k): what points are right; (.one k): pattern
  refine wpL_loop [7, 9, 10, 11, 33, 34, 35, 36, 37, 38, 39, 40, 41, 42, 43, 44, 45, 46, 47, 48, 49, 50, 51, 52, 53, 54, 55, 56, 57, 58, 59, 60, 61, 62, 63, 64, 65] (fun z wx => ∃ (i : Nat) (ov : Value), z 33 = .int .i64 i ∧ z 7 = ov ∧ i ≤ from_.length ∧ Vc.Own w.heap.size 3 1 encN wx ov ((from_.take i).filterMap (stepF (hasN nm k) (ptsU us) back)) ∧ Below w.heap.size w wx) (fun z _ => from_.length - (intOf (z 33)).toNat) ?_ ?_
  · exact ⟨0, _, rfl, rfl, Nat.zero_le _, Vc.Own.nil (enc := encN) _ _ (fun _ => rfl) _, Below.refl _ _⟩
  · intro z wx hI
    obtain ⟨i, ov, h33, h7, hi, hO, hbx⟩ := hI
    have zx := hbx.size
    have hBx := hB.below hbx hB.lt
    have f0 : wx.cell? ⟨b, 0, none⟩ = some (.int .i64 1) := hBx.cell rfl
    simp -dsimp only [push_cast, Nat.reduceAdd, Nat.reduceLeDiff, Nat.reduceBEq, Int.reduceNe, Int.reduceEq, Int.reduceLT, Int.reduceLE, h33, h7]
    refine ⟨fun hlt => ?_, fun hge => ?_⟩
    · obtain ⟨a, hx, hxm, _, ht⟩ := lt_get (l := from_) (i := i) (by omega)
      obtain ⟨b1, o, rfl, hnb, hcell⟩ := (hf.below hbx).get hx
      have c0 : wx.cell? ⟨b1, o + i, none⟩ = some (.int .i64 (a : Int)) := by simpa [encN] using hcell 0 _ rfl
      simp -dsimp only [push_cast, Nat.reduceAdd, Nat.reduceLeDiff, Nat.reduceBEq, Int.reduceNe, Int.reduceEq, Int.reduceLT, Int.reduceLE, c0, Nat.mul_one]
      refine ⟨⟨by omega, by omega⟩, ?_⟩
      refine callK_of (step_c (h.below hbx) a (hle a hxm)) ?_
      rintro r wy ⟨hS, hby⟩
      have zy := hby.size
      have hbwy := hbx.trans (hby.mono zx)
      obtain ⟨oa, oc, rfl⟩ := hO.slice
      have hOy := hO.below hby
      have hBy := hBx.below hby hBx.lt
      have g0 : wy.cell? ⟨b, 0, none⟩ = some (.int .i64 1) := hBy.cell rfl
      have hlL : ((from_.take i).filterMap (stepF (hasN nm k) (ptsU us) back)).length ≤ i := by
        have := List.length_filterMap_le (stepF (hasN nm k) (ptsU us) back) (from_.take i)
        rw [List.length_take] at this
        omega
      have tk : (from_.take (i + 1)).filterMap (stepF (hasN nm k) (ptsU us) back) = (from_.take i).filterMap (stepF (hasN nm k) (ptsU us) back) ++ (stepF (hasN nm k) (ptsU us) back a).toList := by
        rw [ht, List.filterMap_append]
        exact congrArg _ (by cases hq : stepF (hasN nm k) (ptsU us) back a <;> simp [List.filterMap_cons, hq])
      rcases hS with ⟨j, p, hst, rfl⟩ | ⟨hst, rfl⟩
      · skip
        have g1 : wy.cell? ⟨b, 1, none⟩ = some (.pointer (some ⟨kb, 0, none⟩)) := hBy.cell rfl
        simp -dsimp only [push_cast, Nat.reduceAdd, Nat.reduceLeDiff, Nat.reduceBEq, Int.reduceNe, Int.reduceEq, Int.reduceLT, Int.reduceLE, g0, g1]
        refine ⟨fun _ => ?_, fun hn => by omega⟩
        refine callK_of (has_c2 (h.below hbwy) k hok _ (h1.below hbwy) p) ?_
        rintro _ w4 ⟨⟨bb, rfl, hbb⟩, hb4⟩
        have z4 := hb4.size
        have hO4 := hOy.below hb4
        have hbw4 := hbwy.trans (hb4.mono (by omega))
        cases bb with
        | true =>
          have hF : stepF (hasN nm k) (ptsU us) back a = some j := by unfold stepF; rw [hst]; exact if_pos (hbb.1 rfl)
          simp -dsimp only [push_cast, Nat.reduceAdd, Nat.reduceLeDiff, Nat.reduceBEq, Int.reduceNe, Int.reduceEq, Int.reduceLT, Int.reduceLE]
          -- w4: the world; hO4: Vc.Own at it; hbw4: Below w w4
          refine rowK elI_53 rfl rfl (by omega) ?_
          intro w5 hw5
          have z5 := hw5.size
          have hb3 := hbw4
          have zb3 := hb3.size
          have hO5 := (hO4).new hw5
          simp -dsimp only [push_cast, Nat.reduceAdd, Nat.reduceLeDiff, Nat.reduceBEq, Int.reduceNe, Int.reduceEq, Int.reduceLT, Int.reduceLE]
          refine appendK2 (base := w.heap.size) [j] (enc := encN) elI_53 hO5 (by rfl) (fun j u hu => by rw [Nat.zero_add]; exact hw5.cell hu) (by simp [encN, Value.oneCell']) (by simp only [List.length_cons, List.length_nil]; omega) (by omega) ?_
          intro v6 w6 hO6 hg6 hn6
          have hb6 : Below w.heap.size w w6 := (hb3.trans (hw5.below.mono (by omega))).trans ((Kept.grown (X := fun j => w.heap.size ≤ j) hg6 (fun k hk => (hO5.block k hk).1)).below (by omega) (fun _ h => h))
          rw [hF] at tk
          simp -dsimp only [push_cast, Nat.reduceAdd, Nat.reduceLeDiff, Nat.reduceBEq, Int.reduceNe, Int.reduceEq, Int.reduceLT, Int.reduceLE]
          refine ⟨⟨by omega, by omega⟩, ⟨i + 1, _, rfl, rfl, by omega, ?_, hb6⟩, by rw [h33]; simp only [intOf]; omega⟩
          rw [tk]
          exact hO6
        | false =>
          have hF : stepF (hasN nm k) (ptsU us) back a = none := by unfold stepF; rw [hst]; exact if_neg (fun hh => by have := hbb.2 hh; cases this)
          rw [hF] at tk
          simp -dsimp only [push_cast, Nat.reduceAdd, Nat.reduceLeDiff, Nat.reduceBEq, Int.reduceNe, Int.reduceEq, Int.reduceLT, Int.reduceLE]
          refine ⟨⟨by omega, by omega⟩, ⟨i + 1, _, rfl, rfl, by omega, ?_, hbw4⟩, by rw [h33]; simp only [intOf]; omega⟩
          rw [tk]
          simpa using hO4
      · have hF : stepF (hasN nm k) (ptsU us) back a = none := by unfold stepF; rw [hst]
        rw [hF] at tk
        simp -dsimp only [push_cast, Nat.reduceAdd, Nat.reduceLeDiff, Nat.reduceBEq, Int.reduceNe, Int.reduceEq, Int.reduceLT, Int.reduceLE]
        refine ⟨⟨by omega, by omega⟩, ⟨i + 1, _, rfl, rfl, by omega, ?_, hbwy⟩, by rw [h33]; simp only [intOf]; omega⟩
        rw [tk]
        simpa using hOy
    · rw [List.take_of_length_le (by omega)] at hO
      have hlL := List.length_filterMap_le (stepF (hasN nm k) (ptsU us) back) from_
      have hmem : ∀ j, j ∈ from_.filterMap (stepF (hasN nm k) (ptsU us) back) ↔ j ≤ us.length ∧ ∃ i ∈ from_, Rch (hasN nm) (ptsU us) back (.one k) i j := fun j => by
        rw [stepF_mem]
        simp only [Rch]
        constructor
        · rintro ⟨i, h1, p, h2, h3⟩
          exact ⟨by have := stepM_le h2 (by rw [ptsU_len]; exact hle i h1); rw [ptsU_len] at this; exact this, i, h1, by first | exact ⟨p, h2, h3⟩ | exact ⟨p, h2⟩⟩
        · rintro ⟨_, i, h1, hh⟩
          first
            | (obtain ⟨p, h2, h3⟩ := hh; exact ⟨i, h1, p, h2, h3⟩)
            | (obtain ⟨p, h2⟩ := hh; exact ⟨i, h1, p, h2, trivial⟩)
      -- wx: the world; (hO.sl.weaken (fun _ h => h.elim)): Sl; hO.nilArg: Arg; (from_.filterMap (stepF (hasN nm k) (ptsU us) back)): the list; hbx: Below w wx; hmem: what it holds
      have hbF := hbx
      have zF := hbF.size
      refine callK_of (cloneN_c (from_.filterMap (stepF (hasN nm k) (ptsU us) back)) (by omega) (fun _ => False) _ (wx) (hO.sl.weaken (fun _ h => h.elim)) hO.nilArg) ?_
      rintro vc wc ⟨hoc, hbc⟩
      have zc := hbc.size
      simp -dsimp only [push_cast, Nat.reduceAdd, Nat.reduceLeDiff, Nat.reduceBEq, Int.reduceNe, Int.reduceEq, Int.reduceLT, Int.reduceLE]
      refine callK_of (sortN_c (from_.filterMap (stepF (hasN nm k) (ptsU us) back)) (by omega) _ vc wc hoc) ?_
      rintro _ wd ⟨⟨m1, hm1, hod⟩, hkd⟩
      have zd := hkd.size
      have hfl := fin_len hm1
      simp -dsimp only [push_cast, Nat.reduceAdd, Nat.reduceLeDiff, Nat.reduceBEq, Int.reduceNe, Int.reduceEq, Int.reduceLT, Int.reduceLE]
      refine callK_of (compactN_c m1 (by omega) _ vc wd hod) ?_
      rintro vr we ⟨⟨m2, hm2, hoe, howne⟩, hke⟩
      have hfi := fin_is hm1 hm2 hmem
      subst hfi
      simp -dsimp only [push_cast, Nat.reduceAdd, Nat.reduceLeDiff, Nat.reduceBEq, Int.reduceNe, Int.reduceEq, Int.reduceLT, Int.reduceLE]
      exact ⟨hoe.mono zF, hbF.trans ((hbc.mono zF).trans ((hkd.below (by omega) (fun i h => by have := hoc.block i h; omega)).trans (hke.below (by omega) (fun i h => by have := hoc.block i h; omega))))⟩
end Go.Proofs.YtledlfbbebodgaaGreatDoor
end
section
namespace Go.Proofs.YtledlfbbebodgaaGreatDoor
open Go.Vc Go.Proofs Go.RowKit Cae
attribute [local irreducible] wpL callK valK unitK runK Fun Sl Vc.Own vc vcOps opK pureK
theorem all_cat (l : List PatP) (hall : ∀ x ∈ l, AllC x) : AllC (.cat l) := by
  intro hok hpn X w rb mb us nm back h v hV fv from_ hf ha hr hle
  have hlen := h.len
  have hfl := rise_len hr hle
  have hpc := wd_in_cat (l := l)
  simp only [PatV] at hV
  simp only [PatOk] at hok
  obtain ⟨b, sv, vs, rfl, hb, hB, hs, hV⟩ := hV
  have hvl := hV.len
  obtain ⟨sa, sc, rfl, hsc⟩ := hs.shape
  rw [hvl] at hB hs hsc
  obtain ⟨fa, fc, rfl, hfc⟩ := hf.shape
  obtain ⟨lv, hBr, hlv⟩ := h.st
  have d0 : w.cell? ⟨b, 0, none⟩ = some (.int .i64 4) := hB.cell rfl
  have d2 : w.cell? ⟨b, 2, none⟩ = some (.slice sa l.length sc) := hB.cell rfl
  refine fun_of_vc Tryz.func46 rfl (by kernel_rfl) [6] rfl ?_
  simp -dsimp (maxSteps := 4000000) only [push_cast, fr0, Tryz.ntmps46, List.length_cons, List.length_nil, Nat.reduceAdd, Nat.reduceSub, Nat.reduceBEq, List.replicate_succ, List.replicate_zero]
  simp -dsimp only [push_cast, Nat.reduceAdd, Nat.reduceLeDiff, Nat.reduceBEq, Int.reduceNe, Int.reduceEq, Int.reduceLT, Int.reduceLE, d0, d2]
  refine wpL_loop [7, 16, 17, 95, 96, 97, 98, 99, 100, 101, 102, 103, 104, 105, 106, 107, 108, 109, 110, 111, 112, 113, 114, 115, 116, 117, 118, 119, 120, 121] (fun z wx => ∃ (n : Nat) (ov : Value) (L : List Nat), z 95 = .int .i64 n ∧ z 7 = ov ∧ n ≤ l.length ∧ Sl (fun _ => False) 1 (En encN) wx ov L ∧ Arg ov ∧ L.Pairwise (· < ·) ∧ (∀ j, j ∈ L ↔ j ≤ us.length ∧ ∃ i ∈ from_, catN (hasN nm) (ptsU us) back l n i j) ∧ Below w.heap.size w wx) (fun z _ => l.length - (intOf (z 95)).toNat) ?_ ?_
  · refine ⟨0, _, from_, rfl, rfl, Nat.zero_le _, hf, ha, hr, fun j => ?_, Below.refl _ _⟩
    constructor
    · intro hj; exact ⟨hle j hj, j, hj, catN_zero.2 rfl⟩
    · rintro ⟨_, i, hi, h2⟩
      rw [← catN_zero.1 h2]; exact hi
  · intro z wx hI
    obtain ⟨n, ov, L, h95, h7, hn, hL, haL, hrL, hmL, hbx⟩ := hI
    have zx := hbx.size
    have hBx := hB.below hbx hB.lt
    have hBrx := hBr.below hbx hBr.lt
    have e2 : wx.cell? ⟨b, 2, none⟩ = some (.slice sa l.length sc) := hBx.cell rfl
    have eb : wx.cell? ⟨rb, 2, none⟩ = some (.bool back) := hBrx.cell rfl
    have hll := hpc.2.1
    simp -dsimp only [push_cast, Nat.reduceAdd, Nat.reduceLeDiff, Nat.reduceBEq, Int.reduceNe, Int.reduceEq, Int.reduceLT, Int.reduceLE, h95, h7]
    refine ⟨fun hlt => ?_, fun hge => ?_⟩
    · cases back with
      | true =>
        have tn : ((l.length : Int) - 1 - n).toNat = l.length - 1 - n := by omega
        have hkx : ∃ x, l[l.length - 1 - n]? = some x := ⟨l[l.length - 1 - n]'(by omega), List.getElem?_eq_getElem (by omega)⟩
        obtain ⟨x, hx⟩ := hkx
        obtain ⟨u, hu, hVx⟩ := PatsV.nth hV hx
        obtain ⟨b1, o, rfl, hnb, hcell⟩ := (hs.below hbx).get hu
        have c0 : wx.cell? ⟨b1, o + (l.length - 1 - n), none⟩ = some (.pointer (some ⟨u, 0, none⟩)) := by simpa [encP, ptrP] using hcell 0 _ rfl
        simp -dsimp only [push_cast, Nat.reduceAdd, Nat.reduceLeDiff, Nat.reduceBEq, Int.reduceNe, Int.reduceEq, Int.reduceLT, Int.reduceLE, eb, e2, tn, c0, Nat.mul_one]
        refine ⟨⟨by omega, by omega⟩, ⟨by omega, by omega⟩, ⟨by omega, by omega⟩, ?_⟩
        have hxm := List.mem_of_getElem? hx
        refine callK_of (hall x hxm (patsOk_mem hok hxm) (by have := hpc.2.2 x hxm; omega) X wx rb mb us nm _ (h.below hbx) _ (PatV.below hVx hbx) ov L hL haL hrL (fun j hj => ((hmL j).1 hj).1)) ?_
        rintro r wy ⟨hO, hby⟩
        have zy := hby.size
        have haY : Arg r := hO.nilArg
        simp -dsimp only [push_cast, Nat.reduceAdd, Nat.reduceLeDiff, Nat.reduceBEq, Int.reduceNe, Int.reduceEq, Int.reduceLT, Int.reduceLE]
        refine ⟨⟨by omega, by omega⟩, ⟨n + 1, _, _, rfl, rfl, by omega, hO.sl.weaken (fun _ h => h.elim), haY, imgM_rise _ _ _, fun j => ?_, hbx.trans (hby.mono zx)⟩, by rw [h95]; simp only [intOf]; omega⟩
        rw [imgM_mem]
        refine and_congr Iff.rfl ?_
        constructor
        · rintro ⟨m, hm, h2⟩
          obtain ⟨_, i, hi, h3⟩ := (hmL m).1 hm
          exact ⟨i, hi, (catN_succ (by omega) hx).2 ⟨m, h3, h2⟩⟩
        · rintro ⟨i, hi, h3⟩
          obtain ⟨m, h4, h5⟩ := (catN_succ (by omega) hx).1 h3
          exact ⟨m, (hmL m).2 ⟨by have := catN_le (by rw [ptsU_len]; exact hle i hi) h4; rw [ptsU_len] at this; exact this, i, hi, h4⟩, h5⟩
      | false =>
        have hkx : ∃ x, l[n]? = some x := ⟨l[n]'(by omega), List.getElem?_eq_getElem (by omega)⟩
        obtain ⟨x, hx⟩ := hkx
        obtain ⟨u, hu, hVx⟩ := PatsV.nth hV hx
        obtain ⟨b1, o, rfl, hnb, hcell⟩ := (hs.below hbx).get hu
        have c0 : wx.cell? ⟨b1, o + n, none⟩ = some (.pointer (some ⟨u, 0, none⟩)) := by simpa [encP, ptrP] using hcell 0 _ rfl
        simp -dsimp only [push_cast, Nat.reduceAdd, Nat.reduceLeDiff, Nat.reduceBEq, Int.reduceNe, Int.reduceEq, Int.reduceLT, Int.reduceLE, eb, e2, c0, Nat.mul_one]
        refine ⟨⟨by omega, by omega⟩, ?_⟩
        have hxm := List.mem_of_getElem? hx
        refine callK_of (hall x hxm (patsOk_mem hok hxm) (by have := hpc.2.2 x hxm; omega) X wx rb mb us nm _ (h.below hbx) _ (PatV.below hVx hbx) ov L hL haL hrL (fun j hj => ((hmL j).1 hj).1)) ?_
        rintro r wy ⟨hO, hby⟩
        have zy := hby.size
        have haY : Arg r := hO.nilArg
        simp -dsimp only [push_cast, Nat.reduceAdd, Nat.reduceLeDiff, Nat.reduceBEq, Int.reduceNe, Int.reduceEq, Int.reduceLT, Int.reduceLE]
        refine ⟨⟨by omega, by omega⟩, ⟨n + 1, _, _, rfl, rfl, by omega, hO.sl.weaken (fun _ h => h.elim), haY, imgM_rise _ _ _, fun j => ?_, hbx.trans (hby.mono zx)⟩, by rw [h95]; simp only [intOf]; omega⟩
        rw [imgM_mem]
        refine and_congr Iff.rfl ?_
        constructor
        · rintro ⟨m, hm, h2⟩
          obtain ⟨_, i, hi, h3⟩ := (hmL m).1 hm
          exact ⟨i, hi, (catN_succ (by omega) hx).2 ⟨m, h3, h2⟩⟩
        · rintro ⟨i, hi, h3⟩
          obtain ⟨m, h4, h5⟩ := (catN_succ (by omega) hx).1 h3
          exact ⟨m, (hmL m).2 ⟨by have := catN_le (by rw [ptsU_len]; exact hle i hi) h4; rw [ptsU_len] at this; exact this, i, hi, h4⟩, h5⟩
    · have hnl : n = l.length := by omega
      subst hnl
      have hlL := rise_len hrL (fun j hj => ((hmL j).1 hj).1)
      have hmem : ∀ j, j ∈ L ↔ j ≤ us.length ∧ ∃ i ∈ from_, Rch (hasN nm) (ptsU us) back (.cat l) i j := fun j => by
        rw [hmL j]
        refine and_congr Iff.rfl (exists_congr fun i => and_congr Iff.rfl catN_all)
      -- wx: the world; hL: Sl; haL: Arg; L: the list; hbx: Below w wx; hmem: what it holds
      have hbF := hbx
      have zF := hbF.size
      refine callK_of (cloneN_c L (by omega) (fun _ => False) _ (wx) hL haL) ?_
      rintro vc wc ⟨hoc, hbc⟩
      have zc := hbc.size
      simp -dsimp only [push_cast, Nat.reduceAdd, Nat.reduceLeDiff, Nat.reduceBEq, Int.reduceNe, Int.reduceEq, Int.reduceLT, Int.reduceLE]
      refine callK_of (sortN_c L (by omega) _ vc wc hoc) ?_
      rintro _ wd ⟨⟨m1, hm1, hod⟩, hkd⟩
      have zd := hkd.size
      have hfl := fin_len hm1
      simp -dsimp only [push_cast, Nat.reduceAdd, Nat.reduceLeDiff, Nat.reduceBEq, Int.reduceNe, Int.reduceEq, Int.reduceLT, Int.reduceLE]
      refine callK_of (compactN_c m1 (by omega) _ vc wd hod) ?_
      rintro vr we ⟨⟨m2, hm2, hoe, howne⟩, hke⟩
      have hfi := fin_is hm1 hm2 hmem
      subst hfi
      simp -dsimp only [push_cast, Nat.reduceAdd, Nat.reduceLeDiff, Nat.reduceBEq, Int.reduceNe, Int.reduceEq, Int.reduceLT, Int.reduceLE]
      exact ⟨hoe.mono zF, hbF.trans ((hbc.mono zF).trans ((hkd.below (by omega) (fun i h => by have := hoc.block i h; omega)).trans (hke.below (by omega) (fun i h => by have := hoc.block i h; omega))))⟩
theorem all_alt (l : List PatP) (hall : ∀ x ∈ l, AllC x) : AllC (.alt l) := by
  intro hok hpn X w rb mb us nm back h v hV fv from_ hf ha hr hle
  have hlen := h.len
  have hfl := rise_len hr hle
  have hpc := wd_in_alt (l := l)
  have hll := hpc.2.1
  simp only [PatV] at hV
  simp only [PatOk] at hok
  obtain ⟨b, sv, vs, rfl, hb, hB, hs, hV⟩ := hV
  have hvl := hV.len
  obtain ⟨sa, sc, rfl, hsc⟩ := hs.shape
  rw [hvl] at hB hs hsc
  obtain ⟨fa, fc, rfl, hfc⟩ := hf.shape
  have d0 : w.cell? ⟨b, 0, none⟩ = some (.int .i64 5) := hB.cell rfl
  have d2 : w.cell? ⟨b, 2, none⟩ = some (.slice sa l.length sc) := hB.cell rfl
  refine fun_of_vc Tryz.func46 rfl (by kernel_rfl) [6] rfl ?_
  simp -dsimp (maxSteps := 4000000) only [push_cast, fr0, Tryz.ntmps46, List.length_cons, List.length_nil, Nat.reduceAdd, Nat.reduceSub, Nat.reduceBEq, List.replicate_succ, List.replicate_zero]
  simp -dsimp only [push_cast, Nat.reduceAdd, Nat.reduceLeDiff, Nat.reduceBEq, Int.reduceNe, Int.reduceEq, Int.reduceLT, Int.reduceLE, d0, d2]
  refine wpL_loop [7, 19, 129, 130, 131, 132, 133, 134, 135, 136, 137, 138, 139] (fun z wx => ∃ (n : Nat) (ov : Value) (L : List Nat), z 129 = .int .i64 n ∧ z 7 = ov ∧ n ≤ l.length ∧ Vc.Own w.heap.size 3 1 encN wx ov L ∧ L.length ≤ n * (us.length + 1) ∧ (∀ j, j ∈ L ↔ j ≤ us.length ∧ ∃ i ∈ from_, ∃ y ∈ l.take n, Rch (hasN nm) (ptsU us) back y i j) ∧ Below w.heap.size w wx) (fun z _ => l.length - (intOf (z 129)).toNat) ?_ ?_
  · exact ⟨0, _, [], rfl, rfl, Nat.zero_le _, Vc.Own.nil (enc := encN) _ _ (fun _ => rfl) _, by simp, fun j => by simp, Below.refl _ _⟩
  · intro z wx hI
    obtain ⟨n, ov, L, h129, h7, hn, hO, hlL, hmL, hbx⟩ := hI
    have zx := hbx.size
    have hnl : n * (us.length + 1) ≤ l.length * (us.length + 1) := Nat.mul_le_mul_right _ hn
    have hbig : l.length * (us.length + 1) ≤ 100000 * 1001 := Nat.mul_le_mul (by omega) (by omega)
    simp -dsimp only [push_cast, Nat.reduceAdd, Nat.reduceLeDiff, Nat.reduceBEq, Int.reduceNe, Int.reduceEq, Int.reduceLT, Int.reduceLE, h129, h7]
    refine ⟨fun hlt => ?_, fun hge => ?_⟩
    · obtain ⟨x, hx, hxm, _, ht⟩ := lt_get (l := l) (i := n) (by omega)
      obtain ⟨u, hu, hVx⟩ := PatsV.nth hV hx
      obtain ⟨b1, o, rfl, hnb, hcell⟩ := (hs.below hbx).get hu
      have c0 : wx.cell? ⟨b1, o + n, none⟩ = some (.pointer (some ⟨u, 0, none⟩)) := by simpa [encP, ptrP] using hcell 0 _ rfl
      simp -dsimp only [push_cast, Nat.reduceAdd, Nat.reduceLeDiff, Nat.reduceBEq, Int.reduceNe, Int.reduceEq, Int.reduceLT, Int.reduceLE, c0, Nat.mul_one]
      refine ⟨⟨by omega, by omega⟩, ?_⟩
      refine callK_of (hall x hxm (patsOk_mem hok hxm) (by have := hpc.2.2 x hxm; omega) X wx rb mb us nm _ (h.below hbx) _ (PatV.below hVx hbx) _ from_ (hf.below hbx) ha hr hle) ?_
      rintro r wy ⟨hO2, hby⟩
      have zy := hby.size
      have haY : Arg r := hO2.nilArg
      have hOy := hO.below hby
      have hil := rise_len (imgM_rise us.length (Rch (hasN nm) (ptsU us) back x) from_) (fun j hj => (imgM_mem.1 hj).1)
      have hn1 : (n + 1) * (us.length + 1) = n * (us.length + 1) + (us.length + 1) := by rw [Nat.add_mul]; omega
      simp -dsimp only [push_cast, Nat.reduceAdd, Nat.reduceLeDiff, Nat.reduceBEq, Int.reduceNe, Int.reduceEq, Int.reduceLT, Int.reduceLE]
      refine appendAny (base := w.heap.size) (enc := encN) (ys := imgM us.length (Rch (hasN nm) (ptsU us) back x) from_) elI_53 hOy (hO2.sl) haY (by simp [encN, Value.oneCell']) (by omega) (by omega) ?_
      intro v8 w8 hO8 hg8 hb8
      simp -dsimp only [push_cast, Nat.reduceAdd, Nat.reduceLeDiff, Nat.reduceBEq, Int.reduceNe, Int.reduceEq, Int.reduceLT, Int.reduceLE]
      refine ⟨⟨by omega, by omega⟩, ⟨n + 1, _, _, rfl, rfl, by omega, hO8, by rw [List.length_append]; omega, fun j => ?_, (hbx.trans (hby.mono zx)).trans (hb8.mono (by omega))⟩, by rw [h129]; simp only [intOf]; omega⟩
      rw [List.mem_append, hmL j, imgM_mem, ht]
      constructor
      · rintro (⟨h1, i, hi, y, hy, h2⟩ | ⟨h1, i, hi, h2⟩)
        · exact ⟨h1, i, hi, y, List.mem_append_left _ hy, h2⟩
        · exact ⟨h1, i, hi, x, by simp, h2⟩
      · rintro ⟨h1, i, hi, y, hy, h2⟩
        rw [List.mem_append, List.mem_singleton] at hy
        rcases hy with hy | rfl
        · exact .inl ⟨h1, i, hi, y, hy, h2⟩
        · exact .inr ⟨h1, i, hi, h2⟩
    · have hnl : n = l.length := by omega
      subst hnl
      rw [List.take_length] at hmL
      have hmem : ∀ j, j ∈ L ↔ j ≤ us.length ∧ ∃ i ∈ from_, Rch (hasN nm) (ptsU us) back (.alt l) i j := fun j => by
        rw [hmL j]
        refine and_congr Iff.rfl (exists_congr fun i => and_congr Iff.rfl ?_)
        simp only [Rch]
        rw [rchA_mem]
      -- wx: the world; (hO.sl.weaken (fun _ h => h.elim)): Sl; hO.nilArg: Arg; L: the list; hbx: Below w wx; hmem: what it holds
      have hbF := hbx
      have zF := hbF.size
      refine callK_of (cloneN_c L (by omega) (fun _ => False) _ (wx) (hO.sl.weaken (fun _ h => h.elim)) hO.nilArg) ?_
      rintro vc wc ⟨hoc, hbc⟩
      have zc := hbc.size
      simp -dsimp only [push_cast, Nat.reduceAdd, Nat.reduceLeDiff, Nat.reduceBEq, Int.reduceNe, Int.reduceEq, Int.reduceLT, Int.reduceLE]
      refine callK_of (sortN_c L (by omega) _ vc wc hoc) ?_
      rintro _ wd ⟨⟨m1, hm1, hod⟩, hkd⟩
      have zd := hkd.size
      have hfl := fin_len hm1
      simp -dsimp only [push_cast, Nat.reduceAdd, Nat.reduceLeDiff, Nat.reduceBEq, Int.reduceNe, Int.reduceEq, Int.reduceLT, Int.reduceLE]
      refine callK_of (compactN_c m1 (by omega) _ vc wd hod) ?_
      rintro vr we ⟨⟨m2, hm2, hoe, howne⟩, hke⟩
      have hfi := fin_is hm1 hm2 hmem
      subst hfi
      simp -dsimp only [push_cast, Nat.reduceAdd, Nat.reduceLeDiff, Nat.reduceBEq, Int.reduceNe, Int.reduceEq, Int.reduceLT, Int.reduceLE]
      exact ⟨hoe.mono zF, hbF.trans ((hbc.mono zF).trans ((hkd.below (by omega) (fun i h => by have := hoc.block i h; omega)).trans (hke.below (by omega) (fun i h => by have := hoc.block i h; omega))))⟩
end Go.Proofs.YtledlfbbebodgaaGreatDoor
end
section
namespace Go.Vc
open Go.RowKit
section
variable {P:Program} {t:Fr} {w:World} {K:VK} {Q:EP}
theorem appendAny2 {α:Type} {bt ty e:TypeId} {k bytes base:Nat} {enc:α→List Value} {X:Nat→Prop} {v x:Value} {l ys:List α} {p} (hE:elI P bt=some (e,k,bytes)) (hown:Vc.Own base e k enc w v l) (hx:Sl X k (En enc) w x ys)
  (hnil:∀n c,x=.slice none n c→n=0∧c=0) (h1:∀x,∀u∈enc x,u.oneCell'=true)
  (hm:(l.length+ys.length)*bytes≤140737488355328) (hbase:base≤w.heap.size)
  (kk:∀v' w',Vc.Own base e k enc w' v' (l++ys)→w.grownBy w' v.ownBlock→Below base w w'→(∀g,v'.ownBlock=some g→v.ownBlock=some g∨w.heap.size≤g)→K v' w'):valK P (Builtin.append_ #[bt,bt] ty [v,x].toArray) t w K Q p:=by
 obtain⟨hu,i,z,hi,hz,rfl,rfl,hzs,hk,hby⟩:=elI_spec hE
 have hlen:∀(ys:List α),(ys.flatMap enc).length=ys.length*i.size:=by
  intro ys
  induction ys with
  | nil=>simp
  | cons y ys ih=>simp[List.flatMap_cons,hown.2,ih,Nat.add_mul];omega
 have hle:l.length+ys.length≤140737488355328:=Nat.le_trans (Nat.le_mul_of_pos_right _ hby) hm
 unfold Sl at hx
 obtain⟨a,c,rfl,hc,hel⟩:=hx
 cases a with
 | none =>
  obtain⟨h0,rfl⟩:=hnil _ _ rfl
  have:ys=[]:=List.eq_nil_of_length_eq_zero h0
  subst this
  have hr:=run_append_owned_none (P:=P) w base bt ty e i i.size hu hi v l.length (l.flatMap enc) hown.1
  refine valK_of (w':=w) (v:=v) hr (kk v w (by rw[List.append_nil];exact hown) ⟨rfl,rfl,rfl,Nat.le_refl _,fun _ _ _=>rfl⟩ (Below.refl _ _) (fun g hg=>.inl hg))
 | some ad =>
  have hy:∀j u,(ys.flatMap enc)[j]?=some u→w.cell? (ad.add j)=some u:=by
   intro j u hj
   have hjl:=(List.getElem?_eq_some_iff.1 hj).1
   rw[hlen]at hjl
   have hq:j / i.size<ys.length:=Nat.div_lt_of_lt_mul (by rw[Nat.mul_comm];exact hjl)
   have hy0:ys[j / i.size]?=some ys[j / i.size]:=List.getElem?_eq_getElem hq
   obtain⟨b,o,cs,hb,_,hcs,hcell,rfl⟩:=hel _ _ hy0
   cases hb
   have hr:j % i.size<(enc ys[j / i.size]).length:=by rw[hcs];exact Nat.mod_lt _ hk
   have hg:=flatMap_get hown.2 ys (j / i.size) (j % i.size) _ _ hy0 (List.getElem?_eq_getElem hr)
   have ej:j / i.size*i.size+j % i.size=j:=by rw[Nat.mul_comm];exact Nat.div_add_mod j i.size
   rw[ej,hj]at hg
   have:=hcell _ _ (List.getElem?_eq_getElem hr)
   rw[add_lit]
   rw[Nat.add_assoc,ej]at this
   rw[this,hg]
  obtain⟨v',w',hr,ho,hg,_⟩:=run_append_own (P:=P) w base bt ty e i z i.size i.bytes hu hi hz rfl rfl hzs hk v l.length (l.flatMap enc) hown.1 ad ys.length c (ys.flatMap enc) (hlen ys)
   hy (fun u hu'=>by obtain⟨x,_,hx⟩:=List.mem_flatMap.1 hu';exact h1 x u hx) (by simp only[maxLen];omega) hm hbase
  have h1':∀u∈ys.flatMap enc,u.oneCell'=true:=fun u hu'=>by obtain⟨x,_,hx⟩:=List.mem_flatMap.1 hu';exact h1 x u hx
  refine valK_of hr (kk v' w' ⟨by simpa[List.flatMap_append] using ho,hown.2⟩ hg ((Below.refl _ _).grown hg hbase fun k hk=>(hown.1.lt k hk).1) ?_)
  intro g' hg'
  rcases hown.1.2 with ⟨rfl,h0⟩|⟨g,cap,cur,rfl,hbg,hgg,hnc,hcm,hcs,htake⟩
  ·have hl:l=[]:=List.eq_nil_of_length_eq_zero h0
   subst hl
   have hown':w.ownsRow w.heap.size e i.size (.slice none 0 0) 0 []:=World.ownsRow_nil _ _ _ _
   obtain⟨v2,w2,hr2,ho2,_,_⟩:=run_append_own (P:=P) w w.heap.size bt ty e i z i.size i.bytes hu hi hz rfl rfl hzs hk _ 0 [] hown' ad ys.length c (ys.flatMap enc) (hlen ys)
    hy h1' (by simp only[maxLen];omega) (by simpa using hm) (Nat.le_refl _)
   have:=hr.symm.trans hr2
   cases this
   exact .inr (ho2.lt g' hg').1
  ·by_cases hroom:l.length+ys.length≤cap
   ·obtain⟨w2,hr2,_⟩:=run_append_fits (P:=P) (w:=w) base bt ty e i i.size hu hi rfl g l.length cap (l.flatMap enc) hown.1 ad ys.length c (ys.flatMap enc) (hlen ys) hy h1' hroom
    have:=hr.symm.trans hr2
    cases this
    exact .inl hg'
   ·have hr2:=run_append_grow (P:=P) w bt ty e i z hu hi hz ⟨g,0,none⟩ l.length cap (l.flatMap enc) hown.1.1 (hown.1.cells (g:=g) rfl) ad ys.length c (ys.flatMap enc) (hlen ys) hy (by omega) (by omega) (growslice_fits (by omega) hm)
    have:=hr.symm.trans hr2
    cases this
    simp only[Value.ownBlock,Option.some.injEq]at hg'
    exact .inr (by omega)
end
end Go.Vc
end
section
namespace Cae
section
variable {has:KindP→Int→Prop} {pts:List Int} {back:Bool}
theorem stM_le {x:PatP} {l:List Nat} {n j:Nat} (hl:∀i∈l,i≤pts.length) (h:stM (Rch has pts back x) l n j):j≤pts.length:=by
 obtain⟨i,hi,h⟩:=h;exact iterM_le (fun a b ha hr=>rch_le x ha hr) (hl i hi) h
theorem many_fin {x:PatP} {lo k N:Nat} {hi:Int} {from_ M:List Nat} (hM:∀j,j∈M↔j≤N∧∃s,s≤k∧stM (Rch has pts back x) from_ (lo+s) j) (hk:hi<0∨((lo+k:Nat):Int)≤hi)
  (hend:∀t j,(hi<0∨((lo+t:Nat):Int)≤hi)→stM (Rch has pts back x) from_ (lo+t) j→∃s,s≤k∧stM (Rch has pts back x) from_ (lo+s) j):∀j,j∈M↔j≤N∧∃i∈from_,Rch has pts back (.many x (lo:Int) hi) i j:=fun j=>by
 rw[hM j,many_iff];refine and_congr Iff.rfl ?_;constructor
 ·rintro⟨s,hs,h⟩;exact⟨s,by rcases hk with hk|hk <;> omega,h⟩
 ·rintro⟨t,ht,h⟩;exact hend t j ht h
end
theorem rise_sub {l m:List Nat} (hl:l.Pairwise (·<·)) (hm:m.Pairwise (·<·)) (h:∀x∈l,x∈m):l.length≤m.length:=by
 have e:l=m.filter fun x=>decide (x∈l):=rise_eq hl (List.Pairwise.filter _ hm) fun x=>by
  rw[List.mem_filter,decide_eq_true_iff];exact⟨fun hx=>⟨h x hx,hx⟩,fun hx=>hx.2⟩
 rw[e];exact List.length_filter_le _ _
end Cae
namespace Go.Proofs.YtledlfbbebodgaaGreatDoor
open Go.Vc Go.Proofs Go.RowKit Cae
attribute [local irreducible] wpL callK valK unitK runK Fun Sl Vc.Own vc vcOps opK pureK
theorem img_step {N:Nat} {R:Nat→Nat→Prop} {from_ L:List Nat} {t:Nat} (h:∀j,j∈L↔j≤N∧stM R from_ t j) (hle:∀j,stM R from_ t j→j≤N):∀j,j∈imgM N R L↔j≤N∧stM R from_ (t+1) j:=fun j=>by
 rw[imgM_mem,stM_succ];refine and_congr Iff.rfl ?_;constructor
 ·rintro⟨m,hm,h2⟩;exact⟨m,((h m).1 hm).2,h2⟩
 ·rintro⟨m,hm,h2⟩;exact⟨m,(h m).2 ⟨hle m hm,hm⟩,h2⟩
def lenV:Value→Nat
 | .slice _ n _=>n
 | _=>0
theorem merge_is {L m1 m2:List Nat} (h1:intsN m1=((intsN L).mergeSort fun x y=>decide (x≤y))) (h2:intsN m2=Lib.compact (intsN m1)):m2.Pairwise (·<·)∧∀x,x∈m2↔x∈L:=by
 obtain⟨m,e,hp,hmem⟩:=sorted_compact L;rw[←h1,←h2]at e;have e:=intsN_inj e;subst e;exact⟨hp,hmem⟩
theorem many_c (x : PatP) (lo : Nat) (hi : Int) (hx : AllC x) (hok : PatOk x) (hpn : wd x ≤ 100000) (hlo : lo < 100) (hhi : hi < 100) (hlh : hi < 0 ∨ (lo : Int) ≤ hi) (X : Nat → Prop) (w : World) (rb mb : Nat) (us : List U) (nm : NamesP) (back : Bool) (h : Mr X w rb mb us nm back) (v : Value) (hV : PatV X w v (.many x lo hi))
    (fv : Value) (from_ : List Nat) (hf : Sl (fun _ => False) 1 (En encN) w fv from_) (ha : Arg fv) (hr : from_.Pairwise (· < ·)) (hle : ∀ i ∈ from_, i ≤ us.length) :
    Fun Tryz.prog 72 [.pointer (some ⟨rb, 0, none⟩), v, fv] w fun r w' => (∃ M, Vc.Own w.heap.size 3 1 encN w' r M ∧ M.length ≤ 1001 ∧ ∀ j, j ∈ M ↔ j ≤ us.length ∧ ∃ i ∈ from_, Rch (hasN nm) (ptsU us) back (.many x lo hi) i j) ∧ Below w.heap.size w w' := by
  have hlen := h.len
  have hfl := rise_len hr hle
  have hpl := ptsU_len us
  have hstl : ∀ t j, stM (Rch (hasN nm) (ptsU us) back x) from_ t j → j ≤ us.length := fun t j hj => by have := stM_le (by rw [hpl]; exact hle) hj; rw [hpl] at this; exact this
  simp only [PatV] at hV
  obtain ⟨b, sv, u, rfl, hb, hB, hs, hV⟩ := hV
  obtain ⟨sa, sc, rfl, hsc⟩ := hs.shape
  obtain ⟨b1, o, rfl, hnb, hcell⟩ := hs.get (i := 0) (x := u) rfl
  obtain ⟨fa, fc, rfl, hfc⟩ := hf.shape
  have d2 : ∀ w', Below w.heap.size w w' → w'.cell? ⟨b, 2, none⟩ = some (.slice (some ⟨b1, o, none⟩) 1 sc) := fun w' hb => (hB.below hb hB.lt).cell rfl
  have d3 : ∀ w', Below w.heap.size w w' → w'.cell? ⟨b, 3, none⟩ = some (.int .i64 lo) := fun w' hb => (hB.below hb hB.lt).cell rfl
  have d4 : ∀ w', Below w.heap.size w w' → w'.cell? ⟨b, 4, none⟩ = some (.int .i64 hi) := fun w' hb => (hB.below hb hB.lt).cell rfl
  have cx : ∀ w', Below w.heap.size w w' → w'.cell? ⟨b1, o, none⟩ = some (.pointer (some ⟨u, 0, none⟩)) := fun w' hb => (hb.cell (World.block_lt_of_cell? w _ (hcell 0 _ rfl))).trans (by simpa [encP, ptrP] using hcell 0 _ rfl)
  have hrf := Below.refl w.heap.size w
  refine fun_of_vc Tryz.func72 rfl (by kernel_rfl) [6] rfl ?_
  simp -dsimp (maxSteps := 4000000) only [push_cast, fr0, Tryz.ntmps72, List.length_cons, List.length_nil, Nat.reduceAdd, Nat.reduceSub, Nat.reduceBEq, List.replicate_succ, List.replicate_zero]
  simp -dsimp only [push_cast, Nat.reduceAdd, Nat.reduceLeDiff, Nat.reduceBEq, Int.reduceNe, Int.reduceEq, Int.reduceLT, Int.reduceLE, d3 _ hrf]
  refine wpL_loop [7, 8, 17, 18, 19, 20, 21, 22, 23, 24, 25, 26, 27, 28, 29, 30, 31, 32] (fun z wx => ∃ (t : Nat) (ov : Value) (L : List Nat), z 17 = .int .i64 t ∧ z 7 = ov ∧ t ≤ lo ∧ Sl (fun _ => False) 1 (En encN) wx ov L ∧ Arg ov ∧ L.Pairwise (· < ·) ∧ (∀ j, j ∈ L ↔ j ≤ us.length ∧ stM (Rch (hasN nm) (ptsU us) back x) from_ t j) ∧ Below w.heap.size w wx) (fun z _ => lo - (intOf (z 17)).toNat) ?_ ?_
  · refine ⟨0, _, from_, rfl, rfl, Nat.zero_le _, hf, ha, hr, fun j => ?_, Below.refl _ _⟩
    constructor
    · intro hj; exact ⟨hle j hj, j, hj, rfl⟩
    · rintro ⟨_, i, hi, h2⟩
      have h2 : i = j := h2
      rw [← h2]; exact hi
  · intro z wx hI
    obtain ⟨t, ov, L, h17, h7, ht, hL, haL, hrL, hmL, hbx⟩ := hI
    have zx := hbx.size
    simp -dsimp only [push_cast, Nat.reduceAdd, Nat.reduceLeDiff, Nat.reduceBEq, Int.reduceNe, Int.reduceEq, Int.reduceLT, Int.reduceLE, h17, h7, d2 _ hbx, cx _ hbx]
    refine ⟨fun hlt => ?_, fun hge => ?_⟩
    · refine ⟨by omega, ?_⟩
      refine callK_of (hx hok hpn X wx rb mb us nm _ (h.below hbx) _ (PatV.below hV hbx) ov L hL haL hrL (fun j hj => ((hmL j).1 hj).1)) ?_
      rintro r wy ⟨hO, hby⟩
      have zy := hby.size
      have hbwy := hbx.trans (hby.mono zx)
      have hil := rise_len (imgM_rise us.length (Rch (hasN nm) (ptsU us) back x) L) (fun j hj => (imgM_mem.1 hj).1)
      have hmY := img_step hmL (hstl t)
      simp -dsimp only [push_cast, Nat.reduceAdd, Nat.reduceLeDiff, Nat.reduceBEq, Int.reduceNe, Int.reduceEq, Int.reduceLT, Int.reduceLE]
      refine callK_of (equalN_c (imgM us.length (Rch (hasN nm) (ptsU us) back x) L) L (by omega) _ _ r ov wy hO.sl (hL.below hby)) ?_
      rintro _ w4 ⟨rfl, hb4⟩
      by_cases heq : imgM us.length (Rch (hasN nm) (ptsU us) back x) L = L
      · rw [decide_eq_true heq]
        have hsame : ∀ j, stM (Rch (hasN nm) (ptsU us) back x) from_ (t + 1) j ↔ stM (Rch (hasN nm) (ptsU us) back x) from_ t j := fun j => by
          have h1 := hmY j
          rw [heq, hmL j] at h1
          constructor
          · intro hh; exact (h1.2 ⟨hstl _ j hh, hh⟩).2
          · intro hh; exact (h1.1 ⟨hstl _ j hh, hh⟩).2
        have hmR : ∀ j, j ∈ imgM us.length (Rch (hasN nm) (ptsU us) back x) L ↔ j ≤ us.length ∧ stM (Rch (hasN nm) (ptsU us) back x) from_ lo j := fun j => by
          rw [hmY j, hsame j]
          have := stM_fix hsame (lo - t) j
          rw [show t + (lo - t) = lo by omega] at this
          rw [this]
        have hbw4 := hbwy.trans (hb4.mono (by omega))
        have hS4 : Sl (fun _ => False) 1 (En encN) w4 r (imgM us.length (Rch (hasN nm) (ptsU us) back x) L) := (hO.sl.weaken (fun _ h => h.elim)).below hb4
        simp -dsimp only [push_cast, Nat.reduceAdd, Nat.reduceLeDiff, Nat.reduceBEq, Int.reduceNe, Int.reduceEq, Int.reduceLT, Int.reduceLE]
        -- w4: the world; hS4: Sl; hO.nilArg: Arg; (imgM us.length (Rch (hasN nm) (ptsU us) back x) L): the list; r: the value; hbw4: Below; hmR: what it holds; (imgM_rise _ _ _): it rises
        have hbR := hbw4
        have zR := hbR.size
        have hlR := rise_len (imgM_rise _ _ _) (fun j hj => ((hmR j).1 hj).1)
        refine callK_of (cloneN_c (imgM us.length (Rch (hasN nm) (ptsU us) back x) L) (by omega) (fun _ => False) r (w4) hS4 hO.nilArg) ?_
        rintro vo wo ⟨hOo, hbo⟩
        have zo := hbo.size
        have hbwo := hbR.trans (hbo.mono zR)
        simp -dsimp only [push_cast, Nat.reduceAdd, Nat.reduceLeDiff, Nat.reduceBEq, Int.reduceNe, Int.reduceEq, Int.reduceLT, Int.reduceLE, d3 _ hbwo]
        refine wpL_loop [7, 9, 10, 11, 39, 40, 41, 42, 43, 44, 45, 46, 47, 48, 49, 50, 51, 52, 53, 54, 55, 56, 57, 58, 59, 60, 61, 62, 63, 64, 65, 66, 67, 68, 69, 70, 71, 72, 73, 74, 75, 76, 77, 78, 79, 80, 81, 82, 83, 84, 85, 86, 87] (fun z wx => ∃ (k : Nat) (nv : Value) (N1 : List Nat) (ov : Value) (M : List Nat), z 10 = .int .i64 ((lo + k : Nat) : Int) ∧ z 7 = nv ∧ z 9 = ov ∧ Sl (fun _ => False) 1 (En encN) wx nv N1 ∧ Arg nv ∧ N1.Pairwise (· < ·) ∧ (∀ j, j ∈ N1 ↔ j ≤ us.length ∧ stM (Rch (hasN nm) (ptsU us) back x) from_ (lo + k) j) ∧ Vc.Own w.heap.size 3 1 encN wx ov M ∧ M.Pairwise (· < ·) ∧ (∀ j, j ∈ M ↔ j ≤ us.length ∧ ∃ s, s ≤ k ∧ stM (Rch (hasN nm) (ptsU us) back x) from_ (lo + s) j) ∧ (hi < 0 ∨ ((lo + k : Nat) : Int) ≤ hi) ∧ (hi < 0 → k ≤ M.length) ∧ Below w.heap.size w wx) (fun z _ => if hi < 0 then us.length + 2 - lenV (z 9) else (hi - intOf (z 10)).toNat) ?_ ?_
        · refine ⟨0, _, (imgM us.length (Rch (hasN nm) (ptsU us) back x) L), _, (imgM us.length (Rch (hasN nm) (ptsU us) back x) L), rfl, rfl, rfl, (hS4).below hbo, hO.nilArg, (imgM_rise _ _ _), hmR, hOo.mono zR, (imgM_rise _ _ _), fun j => ?_, hlh, fun _ => Nat.zero_le _, hbwo⟩
          rw [hmR j]
          refine and_congr Iff.rfl ?_
          constructor
          · intro hh; exact ⟨0, Nat.le_refl _, hh⟩
          · rintro ⟨s, hs, hh⟩
            have : s = 0 := by omega
            subst this; exact hh
        · intro z wx hI
          obtain ⟨k, nv, N1, ov, M, h10, h7, h9, hN1, haN, hrN, hmN, hO, hrM, hmM, hgo, hkM, hbx⟩ := hI
          have zx := hbx.size
          have hlN := rise_len hrN (fun j hj => ((hmN j).1 hj).1)
          have hlM := rise_len hrM (fun j hj => ((hmM j).1 hj).1)
          have hsh := hN1.shape
          obtain ⟨na, nc, rfl, _⟩ := hsh
          have hsh := hO.slice
          obtain ⟨oa, oc, rfl⟩ := hsh
          simp -dsimp only [push_cast, Nat.reduceAdd, Nat.reduceLeDiff, Nat.reduceBEq, Int.reduceNe, Int.reduceEq, Int.reduceLT, Int.reduceLE, h10, h7, h9, d4 _ hbx, d2 _ hbx, cx _ hbx]
          refine ⟨fun hneg => ⟨fun hlt2 => ⟨fun hpos => ⟨by omega, ?_⟩, fun hz => ?_⟩, fun hge2 => ?_⟩, fun hneg => ⟨fun hpos => ⟨by omega, ?_⟩, fun hz => ?_⟩⟩
          · skip
            -- hn: there is a place now; hgo: more times may be
            refine callK_of (hx hok hpn X wx rb mb us nm _ (h.below hbx) _ (PatV.below hV hbx) _ N1 hN1 haN hrN (fun j hj => ((hmN j).1 hj).1)) ?_
            rintro r wy ⟨hO2, hby⟩
            have zy := hby.size
            have hbwy := hbx.trans (hby.mono zx)
            have hil2 := rise_len (imgM_rise us.length (Rch (hasN nm) (ptsU us) back x) N1) (fun j hj => (imgM_mem.1 hj).1)
            have hmY := img_step hmN (hstl (lo + k))
            have haY : Arg r := hO2.nilArg
            have hOy := hO.below hby
            simp -dsimp only [push_cast, Nat.reduceAdd, Nat.reduceLeDiff, Nat.reduceBEq, Int.reduceNe, Int.reduceEq, Int.reduceLT, Int.reduceLE]
            refine appendAny2 (base := w.heap.size) (enc := encN) (ys := imgM us.length (Rch (hasN nm) (ptsU us) back x) N1) elI_53 hOy (hO2.sl) haY (by simp [encN, Value.oneCell']) (by omega) (by omega) ?_
            intro v5 w5 hO5 hg5 hb5 hn5
            have z5 := hb5.size
            have hbw5 := hbwy.trans (hb5.mono (by omega))
            have hl5 : (M ++ imgM us.length (Rch (hasN nm) (ptsU us) back x) N1).length ≤ 3000 := by rw [List.length_append]; omega
            simp -dsimp only [push_cast, Nat.reduceAdd, Nat.reduceLeDiff, Nat.reduceBEq, Int.reduceNe, Int.reduceEq, Int.reduceLT, Int.reduceLE]
            refine callK_of (sortN_c _ (by omega) _ v5 w5 hO5) ?_
            rintro _ w6 ⟨⟨m1, hm1, hO6⟩, hk6⟩
            have z6 := hk6.size
            have hfl6 := fin_len hm1
            simp -dsimp only [push_cast, Nat.reduceAdd, Nat.reduceLeDiff, Nat.reduceBEq, Int.reduceNe, Int.reduceEq, Int.reduceLT, Int.reduceLE]
            refine callK_of (compactN_c m1 (by omega) _ v5 w6 hO6) ?_
            rintro v7 w7 ⟨⟨m2, hm2, hO7, howne⟩, hk7⟩
            have z7 := hk7.size
            obtain ⟨hrM2, hmM2⟩ := merge_is hm1 hm2
            have hbw7 : Below w.heap.size w w7 := hbw5.trans ((hk6.below (by omega) (fun i h => (hO5.block i h).1)).trans (hk7.below (by omega) (fun i h => (hO5.block i h).1)))
            have hOr5 := hO2.keptX (Kept.grown hg5 (X := fun j => (Value.slice oa M.length oc).ownBlock = some j) (fun _ h => h)) (fun g hg hh => by have := hO2.block g hg; have := hO.block g hh; omega)
            have hne5 : ∀ g, r.ownBlock = some g → v5.ownBlock ≠ some g := fun g hg hh => by
              have h1 := hO2.block g hg
              rcases hn5 g hh with h2 | h2
              · have := hO.block g h2; omega
              · omega
            have hOr7 := (hOr5.keptX hk6 (fun g hg hh => hne5 g hg hh)).keptX hk7 (fun g hg hh => hne5 g hg hh)
            have hN7 : Sl (fun _ => False) 1 (En encN) w7 r (imgM us.length (Rch (hasN nm) (ptsU us) back x) N1) := hOr7.sl.weaken (fun _ h => h.elim)
            have hmM3 : ∀ j, j ∈ m2 ↔ j ≤ us.length ∧ ∃ s, s ≤ k + 1 ∧ stM (Rch (hasN nm) (ptsU us) back x) from_ (lo + s) j := fun j => by
              rw [hmM2, List.mem_append, hmM j, hmY j]
              constructor
              · rintro (⟨h1, s, h2, h3⟩ | ⟨h1, h2⟩)
                · exact ⟨h1, s, by omega, h3⟩
                · exact ⟨h1, k + 1, Nat.le_refl _, h2⟩
              · rintro ⟨h1, s, h2, h3⟩
                by_cases hs : s = k + 1
                · subst hs; exact .inr ⟨h1, h3⟩
                · exact .inl ⟨h1, s, by omega, h3⟩
            have hsub : ∀ y ∈ M, y ∈ m2 := fun y hy => (hmM2 y).2 (List.mem_append_left _ hy)
            have hle2 := rise_sub hrM hrM2 hsub
            have hl2 := rise_len hrM2 (fun j hj => ((hmM3 j).1 hj).1)
            have hsh := hO7.slice
            obtain ⟨o7, c7, rfl⟩ := hsh
            simp -dsimp only [push_cast, Nat.reduceAdd, Nat.reduceLeDiff, Nat.reduceBEq, Int.reduceNe, Int.reduceEq, Int.reduceLT, Int.reduceLE, d4 _ hbw7]
            have hz10 : (Value.int .i64 ((lo : Int) + k + 1)) = .int .i64 ((lo + (k + 1) : Nat) : Int) := by
              congr 1
            refine ⟨fun hneg2 => ⟨fun hsl => ?_, fun hns => ⟨⟨by omega, by have := hkM hneg2; omega⟩, ?_, ?_⟩⟩, fun hnn => ⟨⟨by omega, by omega⟩, ?_, ?_⟩⟩
            · have heq := rise_same hrM hrM2 hsub (by omega)
              refine ⟨⟨m2, hO7, by omega, many_fin hmM3 (.inl hneg2) fun t j ht hst => ?_⟩, hbw7⟩
              have := stM_done (a := lo) (k := k) (fun j hj => by
                have h1 : j ∈ m2 := (hmM3 j).2 ⟨hstl _ j hj, k + 1, Nat.le_refl _, hj⟩
                rw [← heq] at h1
                exact ((hmM j).1 h1).2) t j hst
              obtain ⟨s, hs, h2⟩ := this
              exact ⟨s, by omega, h2⟩
            · exact ⟨k + 1, _, _, _, m2, hz10, rfl, rfl, hN7, haY, imgM_rise _ _ _, hmY, hO7, hrM2, hmM3, .inl hneg2, (fun _ => by have := hkM hneg2; omega), hbw7⟩
            · rw [h9, h10]
              simp only [if_pos hneg2, lenV]
              omega
            · exact ⟨k + 1, _, _, _, m2, hz10, rfl, rfl, hN7, haY, imgM_rise _ _ _, hmY, hO7, hrM2, hmM3, .inr (by omega), (fun hh => absurd hh hnn), hbw7⟩
            · rw [h9, h10]
              simp only [if_neg hnn, intOf]
              omega
          · skip
            refine ⟨⟨M, hO, by omega, many_fin hmM hgo fun t j ht hst => ?_⟩, hbx⟩
            by_cases htk : t < k
            · exact ⟨t, by omega, hst⟩
            · have hno : ∀ j, ¬ stM (Rch (hasN nm) (ptsU us) back x) from_ (lo + k) j := fun j hj => by
                have hm := (hmN j).2 ⟨hstl _ j hj, hj⟩
                have : N1 = [] := List.eq_nil_of_length_eq_zero (by omega)
                rw [this] at hm; cases hm
              have := stM_none hno (t - k) j
              rw [show lo + k + (t - k) = lo + t by omega] at this
              exact absurd hst this
          · refine ⟨⟨M, hO, by omega, many_fin hmM hgo fun t j ht hst => ?_⟩, hbx⟩
            rcases ht with ht | ht
            · omega
            · exact ⟨t, by omega, hst⟩
          · skip
            -- hn: there is a place now; hgo: more times may be
            refine callK_of (hx hok hpn X wx rb mb us nm _ (h.below hbx) _ (PatV.below hV hbx) _ N1 hN1 haN hrN (fun j hj => ((hmN j).1 hj).1)) ?_
            rintro r wy ⟨hO2, hby⟩
            have zy := hby.size
            have hbwy := hbx.trans (hby.mono zx)
            have hil2 := rise_len (imgM_rise us.length (Rch (hasN nm) (ptsU us) back x) N1) (fun j hj => (imgM_mem.1 hj).1)
            have hmY := img_step hmN (hstl (lo + k))
            have haY : Arg r := hO2.nilArg
            have hOy := hO.below hby
            simp -dsimp only [push_cast, Nat.reduceAdd, Nat.reduceLeDiff, Nat.reduceBEq, Int.reduceNe, Int.reduceEq, Int.reduceLT, Int.reduceLE]
            refine appendAny2 (base := w.heap.size) (enc := encN) (ys := imgM us.length (Rch (hasN nm) (ptsU us) back x) N1) elI_53 hOy (hO2.sl) haY (by simp [encN, Value.oneCell']) (by omega) (by omega) ?_
            intro v5 w5 hO5 hg5 hb5 hn5
            have z5 := hb5.size
            have hbw5 := hbwy.trans (hb5.mono (by omega))
            have hl5 : (M ++ imgM us.length (Rch (hasN nm) (ptsU us) back x) N1).length ≤ 3000 := by rw [List.length_append]; omega
            simp -dsimp only [push_cast, Nat.reduceAdd, Nat.reduceLeDiff, Nat.reduceBEq, Int.reduceNe, Int.reduceEq, Int.reduceLT, Int.reduceLE]
            refine callK_of (sortN_c _ (by omega) _ v5 w5 hO5) ?_
            rintro _ w6 ⟨⟨m1, hm1, hO6⟩, hk6⟩
            have z6 := hk6.size
            have hfl6 := fin_len hm1
            simp -dsimp only [push_cast, Nat.reduceAdd, Nat.reduceLeDiff, Nat.reduceBEq, Int.reduceNe, Int.reduceEq, Int.reduceLT, Int.reduceLE]
            refine callK_of (compactN_c m1 (by omega) _ v5 w6 hO6) ?_
            rintro v7 w7 ⟨⟨m2, hm2, hO7, howne⟩, hk7⟩
            have z7 := hk7.size
            obtain ⟨hrM2, hmM2⟩ := merge_is hm1 hm2
            have hbw7 : Below w.heap.size w w7 := hbw5.trans ((hk6.below (by omega) (fun i h => (hO5.block i h).1)).trans (hk7.below (by omega) (fun i h => (hO5.block i h).1)))
            have hOr5 := hO2.keptX (Kept.grown hg5 (X := fun j => (Value.slice oa M.length oc).ownBlock = some j) (fun _ h => h)) (fun g hg hh => by have := hO2.block g hg; have := hO.block g hh; omega)
            have hne5 : ∀ g, r.ownBlock = some g → v5.ownBlock ≠ some g := fun g hg hh => by
              have h1 := hO2.block g hg
              rcases hn5 g hh with h2 | h2
              · have := hO.block g h2; omega
              · omega
            have hOr7 := (hOr5.keptX hk6 (fun g hg hh => hne5 g hg hh)).keptX hk7 (fun g hg hh => hne5 g hg hh)
            have hN7 : Sl (fun _ => False) 1 (En encN) w7 r (imgM us.length (Rch (hasN nm) (ptsU us) back x) N1) := hOr7.sl.weaken (fun _ h => h.elim)
            have hmM3 : ∀ j, j ∈ m2 ↔ j ≤ us.length ∧ ∃ s, s ≤ k + 1 ∧ stM (Rch (hasN nm) (ptsU us) back x) from_ (lo + s) j := fun j => by
              rw [hmM2, List.mem_append, hmM j, hmY j]
              constructor
              · rintro (⟨h1, s, h2, h3⟩ | ⟨h1, h2⟩)
                · exact ⟨h1, s, by omega, h3⟩
                · exact ⟨h1, k + 1, Nat.le_refl _, h2⟩
              · rintro ⟨h1, s, h2, h3⟩
                by_cases hs : s = k + 1
                · subst hs; exact .inr ⟨h1, h3⟩
                · exact .inl ⟨h1, s, by omega, h3⟩
            have hsub : ∀ y ∈ M, y ∈ m2 := fun y hy => (hmM2 y).2 (List.mem_append_left _ hy)
            have hle2 := rise_sub hrM hrM2 hsub
            have hl2 := rise_len hrM2 (fun j hj => ((hmM3 j).1 hj).1)
            have hsh := hO7.slice
            obtain ⟨o7, c7, rfl⟩ := hsh
            simp -dsimp only [push_cast, Nat.reduceAdd, Nat.reduceLeDiff, Nat.reduceBEq, Int.reduceNe, Int.reduceEq, Int.reduceLT, Int.reduceLE, d4 _ hbw7]
            have hz10 : (Value.int .i64 ((lo : Int) + k + 1)) = .int .i64 ((lo + (k + 1) : Nat) : Int) := by
              congr 1
            refine ⟨fun hneg2 => ⟨fun hsl => ?_, fun hns => ⟨⟨by omega, by have := hkM hneg2; omega⟩, ?_, ?_⟩⟩, fun hnn => ⟨⟨by omega, by omega⟩, ?_, ?_⟩⟩
            · have heq := rise_same hrM hrM2 hsub (by omega)
              refine ⟨⟨m2, hO7, by omega, many_fin hmM3 (.inl hneg2) fun t j ht hst => ?_⟩, hbw7⟩
              have := stM_done (a := lo) (k := k) (fun j hj => by
                have h1 : j ∈ m2 := (hmM3 j).2 ⟨hstl _ j hj, k + 1, Nat.le_refl _, hj⟩
                rw [← heq] at h1
                exact ((hmM j).1 h1).2) t j hst
              obtain ⟨s, hs, h2⟩ := this
              exact ⟨s, by omega, h2⟩
            · exact ⟨k + 1, _, _, _, m2, hz10, rfl, rfl, hN7, haY, imgM_rise _ _ _, hmY, hO7, hrM2, hmM3, .inl hneg2, (fun _ => by have := hkM hneg2; omega), hbw7⟩
            · rw [h9, h10]
              simp only [if_pos hneg2, lenV]
              omega
            · exact ⟨k + 1, _, _, _, m2, hz10, rfl, rfl, hN7, haY, imgM_rise _ _ _, hmY, hO7, hrM2, hmM3, .inr (by omega), (fun hh => absurd hh hnn), hbw7⟩
            · rw [h9, h10]
              simp only [if_neg hnn, intOf]
              omega
          · skip
            refine ⟨⟨M, hO, by omega, many_fin hmM hgo fun t j ht hst => ?_⟩, hbx⟩
            by_cases htk : t < k
            · exact ⟨t, by omega, hst⟩
            · have hno : ∀ j, ¬ stM (Rch (hasN nm) (ptsU us) back x) from_ (lo + k) j := fun j hj => by
                have hm := (hmN j).2 ⟨hstl _ j hj, hj⟩
                have : N1 = [] := List.eq_nil_of_length_eq_zero (by omega)
                rw [this] at hm; cases hm
              have := stM_none hno (t - k) j
              rw [show lo + k + (t - k) = lo + t by omega] at this
              exact absurd hst this
      · rw [decide_eq_false heq]
        simp -dsimp only [push_cast, Nat.reduceAdd, Nat.reduceLeDiff, Nat.reduceBEq, Int.reduceNe, Int.reduceEq, Int.reduceLT, Int.reduceLE]
        exact ⟨⟨by omega, by omega⟩, ⟨t + 1, _, _, rfl, rfl, by omega, (hO.sl.weaken (fun _ h => h.elim)).below hb4, hO.nilArg, imgM_rise _ _ _, hmY, hbwy.trans (hb4.mono (by omega))⟩, by rw [h17]; simp only [intOf]; omega⟩
    · have htl : t = lo := by omega
      rw [htl] at hmL
      -- wx: the world; hL: Sl; haL: Arg; L: the list; ov: the value; hbx: Below; hmL: what it holds; hrL: it rises
      have hbR := hbx
      have zR := hbR.size
      have hlR := rise_len hrL (fun j hj => ((hmL j).1 hj).1)
      refine callK_of (cloneN_c L (by omega) (fun _ => False) ov (wx) hL haL) ?_
      rintro vo wo ⟨hOo, hbo⟩
      have zo := hbo.size
      have hbwo := hbR.trans (hbo.mono zR)
      simp -dsimp only [push_cast, Nat.reduceAdd, Nat.reduceLeDiff, Nat.reduceBEq, Int.reduceNe, Int.reduceEq, Int.reduceLT, Int.reduceLE, d3 _ hbwo]
      refine wpL_loop [7, 9, 10, 11, 39, 40, 41, 42, 43, 44, 45, 46, 47, 48, 49, 50, 51, 52, 53, 54, 55, 56, 57, 58, 59, 60, 61, 62, 63, 64, 65, 66, 67, 68, 69, 70, 71, 72, 73, 74, 75, 76, 77, 78, 79, 80, 81, 82, 83, 84, 85, 86, 87] (fun z wx => ∃ (k : Nat) (nv : Value) (N1 : List Nat) (ov : Value) (M : List Nat), z 10 = .int .i64 ((lo + k : Nat) : Int) ∧ z 7 = nv ∧ z 9 = ov ∧ Sl (fun _ => False) 1 (En encN) wx nv N1 ∧ Arg nv ∧ N1.Pairwise (· < ·) ∧ (∀ j, j ∈ N1 ↔ j ≤ us.length ∧ stM (Rch (hasN nm) (ptsU us) back x) from_ (lo + k) j) ∧ Vc.Own w.heap.size 3 1 encN wx ov M ∧ M.Pairwise (· < ·) ∧ (∀ j, j ∈ M ↔ j ≤ us.length ∧ ∃ s, s ≤ k ∧ stM (Rch (hasN nm) (ptsU us) back x) from_ (lo + s) j) ∧ (hi < 0 ∨ ((lo + k : Nat) : Int) ≤ hi) ∧ (hi < 0 → k ≤ M.length) ∧ Below w.heap.size w wx) (fun z _ => if hi < 0 then us.length + 2 - lenV (z 9) else (hi - intOf (z 10)).toNat) ?_ ?_
      · refine ⟨0, _, L, _, L, rfl, rfl, rfl, (hL).below hbo, haL, hrL, hmL, hOo.mono zR, hrL, fun j => ?_, hlh, fun _ => Nat.zero_le _, hbwo⟩
        rw [hmL j]
        refine and_congr Iff.rfl ?_
        constructor
        · intro hh; exact ⟨0, Nat.le_refl _, hh⟩
        · rintro ⟨s, hs, hh⟩
          have : s = 0 := by omega
          subst this; exact hh
      · intro z wx hI
        obtain ⟨k, nv, N1, ov, M, h10, h7, h9, hN1, haN, hrN, hmN, hO, hrM, hmM, hgo, hkM, hbx⟩ := hI
        have zx := hbx.size
        have hlN := rise_len hrN (fun j hj => ((hmN j).1 hj).1)
        have hlM := rise_len hrM (fun j hj => ((hmM j).1 hj).1)
        have hsh := hN1.shape
        obtain ⟨na, nc, rfl, _⟩ := hsh
        have hsh := hO.slice
        obtain ⟨oa, oc, rfl⟩ := hsh
        simp -dsimp only [push_cast, Nat.reduceAdd, Nat.reduceLeDiff, Nat.reduceBEq, Int.reduceNe, Int.reduceEq, Int.reduceLT, Int.reduceLE, h10, h7, h9, d4 _ hbx, d2 _ hbx, cx _ hbx]
        refine ⟨fun hneg => ⟨fun hlt2 => ⟨fun hpos => ⟨by omega, ?_⟩, fun hz => ?_⟩, fun hge2 => ?_⟩, fun hneg => ⟨fun hpos => ⟨by omega, ?_⟩, fun hz => ?_⟩⟩
        · skip
          -- hn: there is a place now; hgo: more times may be
          refine callK_of (hx hok hpn X wx rb mb us nm _ (h.below hbx) _ (PatV.below hV hbx) _ N1 hN1 haN hrN (fun j hj => ((hmN j).1 hj).1)) ?_
          rintro r wy ⟨hO2, hby⟩
          have zy := hby.size
          have hbwy := hbx.trans (hby.mono zx)
          have hil2 := rise_len (imgM_rise us.length (Rch (hasN nm) (ptsU us) back x) N1) (fun j hj => (imgM_mem.1 hj).1)
          have hmY := img_step hmN (hstl (lo + k))
          have haY : Arg r := hO2.nilArg
          have hOy := hO.below hby
          simp -dsimp only [push_cast, Nat.reduceAdd, Nat.reduceLeDiff, Nat.reduceBEq, Int.reduceNe, Int.reduceEq, Int.reduceLT, Int.reduceLE]
          refine appendAny2 (base := w.heap.size) (enc := encN) (ys := imgM us.length (Rch (hasN nm) (ptsU us) back x) N1) elI_53 hOy (hO2.sl) haY (by simp [encN, Value.oneCell']) (by omega) (by omega) ?_
          intro v5 w5 hO5 hg5 hb5 hn5
          have z5 := hb5.size
          have hbw5 := hbwy.trans (hb5.mono (by omega))
          have hl5 : (M ++ imgM us.length (Rch (hasN nm) (ptsU us) back x) N1).length ≤ 3000 := by rw [List.length_append]; omega
          simp -dsimp only [push_cast, Nat.reduceAdd, Nat.reduceLeDiff, Nat.reduceBEq, Int.reduceNe, Int.reduceEq, Int.reduceLT, Int.reduceLE]
          refine callK_of (sortN_c _ (by omega) _ v5 w5 hO5) ?_
          rintro _ w6 ⟨⟨m1, hm1, hO6⟩, hk6⟩
          have z6 := hk6.size
          have hfl6 := fin_len hm1
          simp -dsimp only [push_cast, Nat.reduceAdd, Nat.reduceLeDiff, Nat.reduceBEq, Int.reduceNe, Int.reduceEq, Int.reduceLT, Int.reduceLE]
          refine callK_of (compactN_c m1 (by omega) _ v5 w6 hO6) ?_
          rintro v7 w7 ⟨⟨m2, hm2, hO7, howne⟩, hk7⟩
          have z7 := hk7.size
          obtain ⟨hrM2, hmM2⟩ := merge_is hm1 hm2
          have hbw7 : Below w.heap.size w w7 := hbw5.trans ((hk6.below (by omega) (fun i h => (hO5.block i h).1)).trans (hk7.below (by omega) (fun i h => (hO5.block i h).1)))
          have hOr5 := hO2.keptX (Kept.grown hg5 (X := fun j => (Value.slice oa M.length oc).ownBlock = some j) (fun _ h => h)) (fun g hg hh => by have := hO2.block g hg; have := hO.block g hh; omega)
          have hne5 : ∀ g, r.ownBlock = some g → v5.ownBlock ≠ some g := fun g hg hh => by
            have h1 := hO2.block g hg
            rcases hn5 g hh with h2 | h2
            · have := hO.block g h2; omega
            · omega
          have hOr7 := (hOr5.keptX hk6 (fun g hg hh => hne5 g hg hh)).keptX hk7 (fun g hg hh => hne5 g hg hh)
          have hN7 : Sl (fun _ => False) 1 (En encN) w7 r (imgM us.length (Rch (hasN nm) (ptsU us) back x) N1) := hOr7.sl.weaken (fun _ h => h.elim)
          have hmM3 : ∀ j, j ∈ m2 ↔ j ≤ us.length ∧ ∃ s, s ≤ k + 1 ∧ stM (Rch (hasN nm) (ptsU us) back x) from_ (lo + s) j := fun j => by
            rw [hmM2, List.mem_append, hmM j, hmY j]
            constructor
            · rintro (⟨h1, s, h2, h3⟩ | ⟨h1, h2⟩)
              · exact ⟨h1, s, by omega, h3⟩
              · exact ⟨h1, k + 1, Nat.le_refl _, h2⟩
            · rintro ⟨h1, s, h2, h3⟩
              by_cases hs : s = k + 1
              · subst hs; exact .inr ⟨h1, h3⟩
              · exact .inl ⟨h1, s, by omega, h3⟩
          have hsub : ∀ y ∈ M, y ∈ m2 := fun y hy => (hmM2 y).2 (List.mem_append_left _ hy)
          have hle2 := rise_sub hrM hrM2 hsub
          have hl2 := rise_len hrM2 (fun j hj => ((hmM3 j).1 hj).1)
          have hsh := hO7.slice
          obtain ⟨o7, c7, rfl⟩ := hsh
          simp -dsimp only [push_cast, Nat.reduceAdd, Nat.reduceLeDiff, Nat.reduceBEq, Int.reduceNe, Int.reduceEq, Int.reduceLT, Int.reduceLE, d4 _ hbw7]
          have hz10 : (Value.int .i64 ((lo : Int) + k + 1)) = .int .i64 ((lo + (k + 1) : Nat) : Int) := by
            congr 1
          refine ⟨fun hneg2 => ⟨fun hsl => ?_, fun hns => ⟨⟨by omega, by have := hkM hneg2; omega⟩, ?_, ?_⟩⟩, fun hnn => ⟨⟨by omega, by omega⟩, ?_, ?_⟩⟩
          · have heq := rise_same hrM hrM2 hsub (by omega)
            refine ⟨⟨m2, hO7, by omega, many_fin hmM3 (.inl hneg2) fun t j ht hst => ?_⟩, hbw7⟩
            have := stM_done (a := lo) (k := k) (fun j hj => by
              have h1 : j ∈ m2 := (hmM3 j).2 ⟨hstl _ j hj, k + 1, Nat.le_refl _, hj⟩
              rw [← heq] at h1
              exact ((hmM j).1 h1).2) t j hst
            obtain ⟨s, hs, h2⟩ := this
            exact ⟨s, by omega, h2⟩
          · exact ⟨k + 1, _, _, _, m2, hz10, rfl, rfl, hN7, haY, imgM_rise _ _ _, hmY, hO7, hrM2, hmM3, .inl hneg2, (fun _ => by have := hkM hneg2; omega), hbw7⟩
          · rw [h9, h10]
            simp only [if_pos hneg2, lenV]
            omega
          · exact ⟨k + 1, _, _, _, m2, hz10, rfl, rfl, hN7, haY, imgM_rise _ _ _, hmY, hO7, hrM2, hmM3, .inr (by omega), (fun hh => absurd hh hnn), hbw7⟩
          · rw [h9, h10]
            simp only [if_neg hnn, intOf]
            omega
        · skip
          refine ⟨⟨M, hO, by omega, many_fin hmM hgo fun t j ht hst => ?_⟩, hbx⟩
          by_cases htk : t < k
          · exact ⟨t, by omega, hst⟩
          · have hno : ∀ j, ¬ stM (Rch (hasN nm) (ptsU us) back x) from_ (lo + k) j := fun j hj => by
              have hm := (hmN j).2 ⟨hstl _ j hj, hj⟩
              have : N1 = [] := List.eq_nil_of_length_eq_zero (by omega)
              rw [this] at hm; cases hm
            have := stM_none hno (t - k) j
            rw [show lo + k + (t - k) = lo + t by omega] at this
            exact absurd hst this
        · refine ⟨⟨M, hO, by omega, many_fin hmM hgo fun t j ht hst => ?_⟩, hbx⟩
          rcases ht with ht | ht
          · omega
          · exact ⟨t, by omega, hst⟩
        · skip
          -- hn: there is a place now; hgo: more times may be
          refine callK_of (hx hok hpn X wx rb mb us nm _ (h.below hbx) _ (PatV.below hV hbx) _ N1 hN1 haN hrN (fun j hj => ((hmN j).1 hj).1)) ?_
          rintro r wy ⟨hO2, hby⟩
          have zy := hby.size
          have hbwy := hbx.trans (hby.mono zx)
          have hil2 := rise_len (imgM_rise us.length (Rch (hasN nm) (ptsU us) back x) N1) (fun j hj => (imgM_mem.1 hj).1)
          have hmY := img_step hmN (hstl (lo + k))
          have haY : Arg r := hO2.nilArg
          have hOy := hO.below hby
          simp -dsimp only [push_cast, Nat.reduceAdd, Nat.reduceLeDiff, Nat.reduceBEq, Int.reduceNe, Int.reduceEq, Int.reduceLT, Int.reduceLE]
          refine appendAny2 (base := w.heap.size) (enc := encN) (ys := imgM us.length (Rch (hasN nm) (ptsU us) back x) N1) elI_53 hOy (hO2.sl) haY (by simp [encN, Value.oneCell']) (by omega) (by omega) ?_
          intro v5 w5 hO5 hg5 hb5 hn5
          have z5 := hb5.size
          have hbw5 := hbwy.trans (hb5.mono (by omega))
          have hl5 : (M ++ imgM us.length (Rch (hasN nm) (ptsU us) back x) N1).length ≤ 3000 := by rw [List.length_append]; omega
          simp -dsimp only [push_cast, Nat.reduceAdd, Nat.reduceLeDiff, Nat.reduceBEq, Int.reduceNe, Int.reduceEq, Int.reduceLT, Int.reduceLE]
          refine callK_of (sortN_c _ (by omega) _ v5 w5 hO5) ?_
          rintro _ w6 ⟨⟨m1, hm1, hO6⟩, hk6⟩
          have z6 := hk6.size
          have hfl6 := fin_len hm1
          simp -dsimp only [push_cast, Nat.reduceAdd, Nat.reduceLeDiff, Nat.reduceBEq, Int.reduceNe, Int.reduceEq, Int.reduceLT, Int.reduceLE]
          refine callK_of (compactN_c m1 (by omega) _ v5 w6 hO6) ?_
          rintro v7 w7 ⟨⟨m2, hm2, hO7, howne⟩, hk7⟩
          have z7 := hk7.size
          obtain ⟨hrM2, hmM2⟩ := merge_is hm1 hm2
          have hbw7 : Below w.heap.size w w7 := hbw5.trans ((hk6.below (by omega) (fun i h => (hO5.block i h).1)).trans (hk7.below (by omega) (fun i h => (hO5.block i h).1)))
          have hOr5 := hO2.keptX (Kept.grown hg5 (X := fun j => (Value.slice oa M.length oc).ownBlock = some j) (fun _ h => h)) (fun g hg hh => by have := hO2.block g hg; have := hO.block g hh; omega)
          have hne5 : ∀ g, r.ownBlock = some g → v5.ownBlock ≠ some g := fun g hg hh => by
            have h1 := hO2.block g hg
            rcases hn5 g hh with h2 | h2
            · have := hO.block g h2; omega
            · omega
          have hOr7 := (hOr5.keptX hk6 (fun g hg hh => hne5 g hg hh)).keptX hk7 (fun g hg hh => hne5 g hg hh)
          have hN7 : Sl (fun _ => False) 1 (En encN) w7 r (imgM us.length (Rch (hasN nm) (ptsU us) back x) N1) := hOr7.sl.weaken (fun _ h => h.elim)
          have hmM3 : ∀ j, j ∈ m2 ↔ j ≤ us.length ∧ ∃ s, s ≤ k + 1 ∧ stM (Rch (hasN nm) (ptsU us) back x) from_ (lo + s) j := fun j => by
            rw [hmM2, List.mem_append, hmM j, hmY j]
            constructor
            · rintro (⟨h1, s, h2, h3⟩ | ⟨h1, h2⟩)
              · exact ⟨h1, s, by omega, h3⟩
              · exact ⟨h1, k + 1, Nat.le_refl _, h2⟩
            · rintro ⟨h1, s, h2, h3⟩
              by_cases hs : s = k + 1
              · subst hs; exact .inr ⟨h1, h3⟩
              · exact .inl ⟨h1, s, by omega, h3⟩
          have hsub : ∀ y ∈ M, y ∈ m2 := fun y hy => (hmM2 y).2 (List.mem_append_left _ hy)
          have hle2 := rise_sub hrM hrM2 hsub
          have hl2 := rise_len hrM2 (fun j hj => ((hmM3 j).1 hj).1)
          have hsh := hO7.slice
          obtain ⟨o7, c7, rfl⟩ := hsh
          simp -dsimp only [push_cast, Nat.reduceAdd, Nat.reduceLeDiff, Nat.reduceBEq, Int.reduceNe, Int.reduceEq, Int.reduceLT, Int.reduceLE, d4 _ hbw7]
          have hz10 : (Value.int .i64 ((lo : Int) + k + 1)) = .int .i64 ((lo + (k + 1) : Nat) : Int) := by
            congr 1
          refine ⟨fun hneg2 => ⟨fun hsl => ?_, fun hns => ⟨⟨by omega, by have := hkM hneg2; omega⟩, ?_, ?_⟩⟩, fun hnn => ⟨⟨by omega, by omega⟩, ?_, ?_⟩⟩
          · have heq := rise_same hrM hrM2 hsub (by omega)
            refine ⟨⟨m2, hO7, by omega, many_fin hmM3 (.inl hneg2) fun t j ht hst => ?_⟩, hbw7⟩
            have := stM_done (a := lo) (k := k) (fun j hj => by
              have h1 : j ∈ m2 := (hmM3 j).2 ⟨hstl _ j hj, k + 1, Nat.le_refl _, hj⟩
              rw [← heq] at h1
              exact ((hmM j).1 h1).2) t j hst
            obtain ⟨s, hs, h2⟩ := this
            exact ⟨s, by omega, h2⟩
          · exact ⟨k + 1, _, _, _, m2, hz10, rfl, rfl, hN7, haY, imgM_rise _ _ _, hmY, hO7, hrM2, hmM3, .inl hneg2, (fun _ => by have := hkM hneg2; omega), hbw7⟩
          · rw [h9, h10]
            simp only [if_pos hneg2, lenV]
            omega
          · exact ⟨k + 1, _, _, _, m2, hz10, rfl, rfl, hN7, haY, imgM_rise _ _ _, hmY, hO7, hrM2, hmM3, .inr (by omega), (fun hh => absurd hh hnn), hbw7⟩
          · rw [h9, h10]
            simp only [if_neg hnn, intOf]
            omega
        · skip
          refine ⟨⟨M, hO, by omega, many_fin hmM hgo fun t j ht hst => ?_⟩, hbx⟩
          by_cases htk : t < k
          · exact ⟨t, by omega, hst⟩
          · have hno : ∀ j, ¬ stM (Rch (hasN nm) (ptsU us) back x) from_ (lo + k) j := fun j hj => by
              have hm := (hmN j).2 ⟨hstl _ j hj, hj⟩
              have : N1 = [] := List.eq_nil_of_length_eq_zero (by omega)
              rw [this] at hm; cases hm
            have := stM_none hno (t - k) j
            rw [show lo + k + (t - k) = lo + t by omega] at this
            exact absurd hst this
theorem all_many (x : PatP) (lo hi : Int) (hx : AllC x) : AllC (.many x lo hi) := by
  intro hok hpn X w rb mb us nm back h v hV fv from_ hf ha hr hle
  have hlen := h.len
  have hfl := rise_len hr hle
  have hpm := wd_in_many (x := x) (lo := lo) (hi := hi)
  simp only [PatOk] at hok
  obtain ⟨hok1, h0, h1, h2, h3⟩ := hok
  obtain ⟨l, rfl⟩ : ∃ l : Nat, lo = l := ⟨lo.toNat, by omega⟩
  have hV0 := hV
  simp only [PatV] at hV
  obtain ⟨b, sv, u, rfl, hb, hB, hs, hV⟩ := hV
  obtain ⟨fa, fc, rfl, hfc⟩ := hf.shape
  have d0 : w.cell? ⟨b, 0, none⟩ = some (.int .i64 6) := hB.cell rfl
  refine fun_of_vc Tryz.func46 rfl (by kernel_rfl) [6] rfl ?_
  simp -dsimp (maxSteps := 4000000) only [push_cast, fr0, Tryz.ntmps46, List.length_cons, List.length_nil, Nat.reduceAdd, Nat.reduceSub, Nat.reduceBEq, List.replicate_succ, List.replicate_zero]
  simp -dsimp only [push_cast, Nat.reduceAdd, Nat.reduceLeDiff, Nat.reduceBEq, Int.reduceNe, Int.reduceEq, Int.reduceLT, Int.reduceLE, d0]
  refine callK_of (many_c x l hi hx hok1 (by omega) (by omega) h2 h3 X w rb mb us nm back h _ hV0 _ from_ hf ha hr hle) ?_
  rintro r wx ⟨⟨M, hO, hlM, hmM⟩, hbx⟩
  simp -dsimp only [push_cast, Nat.reduceAdd, Nat.reduceLeDiff, Nat.reduceBEq, Int.reduceNe, Int.reduceEq, Int.reduceLT, Int.reduceLE]
  -- wx: the world; (hO.sl.weaken (fun _ h => h.elim)): Sl; hO.nilArg: Arg; M: the list; hbx: Below w wx; hmM: what it holds
  have hbF := hbx
  have zF := hbF.size
  refine callK_of (cloneN_c M (by omega) (fun _ => False) _ (wx) (hO.sl.weaken (fun _ h => h.elim)) hO.nilArg) ?_
  rintro vc wc ⟨hoc, hbc⟩
  have zc := hbc.size
  simp -dsimp only [push_cast, Nat.reduceAdd, Nat.reduceLeDiff, Nat.reduceBEq, Int.reduceNe, Int.reduceEq, Int.reduceLT, Int.reduceLE]
  refine callK_of (sortN_c M (by omega) _ vc wc hoc) ?_
  rintro _ wd ⟨⟨m1, hm1, hod⟩, hkd⟩
  have zd := hkd.size
  have hfl := fin_len hm1
  simp -dsimp only [push_cast, Nat.reduceAdd, Nat.reduceLeDiff, Nat.reduceBEq, Int.reduceNe, Int.reduceEq, Int.reduceLT, Int.reduceLE]
  refine callK_of (compactN_c m1 (by omega) _ vc wd hod) ?_
  rintro vr we ⟨⟨m2, hm2, hoe, howne⟩, hke⟩
  have hfi := fin_is hm1 hm2 hmM
  subst hfi
  simp -dsimp only [push_cast, Nat.reduceAdd, Nat.reduceLeDiff, Nat.reduceBEq, Int.reduceNe, Int.reduceEq, Int.reduceLT, Int.reduceLE]
  exact ⟨hoe.mono zF, hbF.trans ((hbc.mono zF).trans ((hkd.below (by omega) (fun i h => by have := hoc.block i h; omega)).trans (hke.below (by omega) (fun i h => by have := hoc.block i h; omega))))⟩
mutual
theorem all_c:∀x,AllC x
 | .one k=>all_one k
 | .any=>all_any
 | .edge=>all_edge
 | .cat l=>all_cat l (alls_c l)
 | .alt l=>all_alt l (alls_c l)
 | .many x lo hi=>all_many x lo hi (all_c x)
theorem alls_c:∀(l:List PatP) (x:PatP),x∈l→AllC x
 | [],x,h=>by cases h
 | y :: l,x,h=>by
  have hy:=all_c y;rcases List.mem_cons.1 h with h|h
  ·rw[h];exact hy
  ·exact alls_c l x h
end
end Go.Proofs.YtledlfbbebodgaaGreatDoor
end
