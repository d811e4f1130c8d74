/- Texts of this claim, merged: Prl3, Fp, Vq, Boom, Rp1, Rp2, Rp3, Rp4, Ptold, Pfld, Rfld. -/
import Derived.Test.YtodeeahdhnjpkaaGreatDoorM5
import Derived.Shelf.Strconv.AtoiAll
import Derived.Lib.CountLaws
import Derived.Lib.Split
import Derived.Lib.IndexBytes
import Derived.Lib.SlTrimSet
import Derived.Shelf.Strings.FieldsAny
import Derived.Shelf.Strings.SlTrimAscii
import Derived.Shelf.Strings.Split
import Derived.Shelf.Unicode.PredsPay
set_option maxRecDepth 100000
set_option linter.unusedSimpArgs false
set_option linter.unusedVariables false
set_option maxHeartbeats 8000000
section
namespace Cae
def W (l:List Cae.Tok):Nat:=(l.map λt=>2*t.text.length+9).sum
theorem Bg (t:Cae.Tok)(l:List Cae.Tok):W (t::l)=2*t.text.length+9+W l:=by simp[W]
def Me {α:Type}(c:Nat)(μ:α->Nat)(p:Pa α):Prop:=∀l x l',p l=.ok (x,l')->μ x+W l'<=W l+c
section
variable {α β:Type} {c d:Nat} {μ:α->Nat} {ν:β->Nat} {p:Pa α} {q:α->Pa β}
theorem Me.pr {x:α}:Me (μ x) μ (pr x):=λl y l' h=>by cases h;omega
theorem Me.fail {e:Nat}:Me c μ (ck e):=λl y l' h=>by cases h
theorem Me.mono (h:Me c μ p)(hc:c<=d):Me d μ p:=λl x l' e=>by have:=h l x l' e;omega
theorem Me.qP {μ':α->Nat}(h:Me c μ p)(hm:∀x,μ' x<=μ x):Me c μ' p:=λl x l' e=>by have:=h l x l' e;have:=hm x;omega
theorem Me.pb {m:Nat}(h:Me c μ p)(k:∀x,Me (μ x+d) ν (q x))(hm:c+d<=m):Me m ν (pb p q):=λl y l' e=>by
 obtain⟨x,l1,e1,e2⟩:=eo e;have h1:=h l x l1 e1;have h2:=k x l1 y l' e2;omega
theorem Me.bE {cc:List Cae.Tok->Bool}{p1 p2:Pa α}(h1:Me c μ p1)(h2:Me c μ p2):Me c μ (bE cc p1 p2):=λl x l' e=>by
 unfold Cae.bE at e;split at e
 ·exact h1 l x l' e
 exact h2 l x l' e
theorem Me.eA:Me 0 (λ_=>0) eA:=λl x l' e=>by cases e;dsimp only;omega
theorem D1 {l l':List Cae.Tok}{x:Unit}(h:bV l=.ok (x,l')):∃t,l=t::l'/\t.kind≠5:=by
 cases l with
 | nil=>cases h
 | cons t r =>
  by_cases h5:t.kind=5
  ·simp[bV,h5]at h
  have e':bV (t::r)=.ok ((),r):=by simp[bV,h5]
  rw[e']at h;cases h;exact⟨t,rfl,h5⟩
theorem Me.pop:Me 0 (λ_=>9) bV:=λl x l' e=>by
 obtain⟨t,rfl,_⟩:=D1 e;rw[Bg];dsimp only;omega
theorem Me.Y4:Me 0 (λ_=>0) bV:=Me.pop.qP λ_=>Nat.zero_le _
end
theorem iy (s:List UInt8):Me 0 (λ_=>9) (a7 s):=Me.bE Me.pop Me.fail
theorem LM:Me 0 (λn:List UInt8=>n.length+8) fP:=λl n l' e=>by
 unfold fP bE at e;split at e
 ·split at e
  ·cases e
  obtain⟨t,l1,e1,e2⟩:=eo e;cases e1;obtain⟨x,l2,e3,e4⟩:=eo e2;cases e4;obtain⟨t,rfl,_⟩:=D1 e3;rw[Bg]
  show t.text.length+8+W l'<=2*t.text.length+9+W l'+0
  omega
 cases e
def kn (k:ax):Nat:=(fH k true).length+3
theorem TY (k:ax)(a:Bool):(fH k a).length+3<=kn k:=by
 unfold kn;cases a with
 | true=>exact Nat.le_refl _
 | false=>cases k<;>simp[fH]<;>omega
theorem aCr (c p:Nat)(k r:ax):kn (.bin c p k r)<=kn k+kn r+2:=by
 have h1:=TY k false;have h2:=TY r true;unfold kn at *
 simp only[fH,if_true,List.length_cons,List.length_append,List.length_nil];have:(if c=3 then [32,124,32] else if c=4 then [32,38,32] else [32,45,32]:List UInt8).length=3:=by split<;>(try split)<;>rfl
 rw[this];omega
theorem aCs (p:Nat)(k:ax):kn (.not p k)=kn k+1:=by simp[kn,fH]
theorem aCH:Me 0 (λc:Nat=>if c=0 then 0 else 8) oB:=by
 have h:∀c:Nat,c≠0->Me 0 (λc:Nat=>if c=0 then 0 else 8) (pb bV λ_=>pr c):=λc hc=>Me.pb (d:=0) (Me.pop.qP (μ':=λ_=>8) λ_=>by omega) (λ_=>by have:=Me.pr (μ:=λc:Nat=>if c=0 then 0 else 8) (x:=c);rw[if_neg hc]at this;exact this) (by omega)
 exact Me.bE (h 3 (by decide)) (Me.bE (h 4 (by decide)) (Me.bE (h 5 (by decide)) Me.pr))
theorem vB {one:Pa ax}(h:Me 0 kn one)(pos:Nat):∀(n:Nat) (k:ax),Me (kn k) kn (cj one pos n k)
 | 0,k=>Me.fail
 | n+1,k=>Me.pb (d:=kn k) aCH (λc=>by
   by_cases h0:c=0
   ·rw[if_pos h0,if_pos h0];exact Me.pr.mono (by omega)
   rw[if_neg h0,if_neg h0];refine Me.pb (d:=8+kn k) h (λr=>(vB h pos n _).mono ?_) (by omega)
   have:=aCr c pos k r;omega) (by omega)
theorem G9 {one:Pa ax}(h:Me 0 kn one):Me 0 kn (lG one):=Me.pb (d:=0) Me.eA (λt=>Me.pb (d:=0) h (λk=>vB h _ _ _) (by omega)) (by omega)
theorem aCI:Me 0 kn yC:=λl k l' e=>by
 obtain⟨t,l1,e1,e2⟩:=eo e;cases e1;cases hs:Dc (hd l).text with
 | none=>rw[hs]at e2;cases e2
 | some s =>
  rw[hs]at e2;obtain⟨x,l2,e3,e4⟩:=eo e2;cases e4;obtain⟨t,rfl,_⟩:=D1 e3;have h1:fR s=t.text:=(Dd hs).2;rw[Bg,<-h1]
  show (fR s).length+3+W l'<=_
  omega
theorem DP:∀d,Me 0 kn (dI d)
 | 0=>Me.fail
 | d+1=>Me.bE aCI (Me.bE (Me.pb (d:=0) Me.eA (λt=>Me.pb (d:=0) Me.pop (λ_=>Me.pb (d:=9) (DP d) (λk=>Me.pr.mono (by rw[aCs];omega)) (by omega)) (by omega)) (by omega))
   (Me.bE (Me.pb (d:=0) Me.Y4 (λ_=>Me.pb (d:=0) (G9 (DP d)) (λk=>Me.pb (d:=kn k) (iy _) (λ_=>Me.pr.mono (by omega)) (by omega)) (by omega)) (by omega))
    (Me.pb (d:=0) Me.eA (λt=>Me.pb (d:=0) LM (λn=>Me.pr.mono (by show n.length+3<=_;omega)) (by omega)) (by omega))))
def pn (x:aI):Nat:=(al x 2).length+3
theorem gY (b:Bool)(s:List UInt8):s.length<=(pj b s).length/\(pj b s).length<=s.length+2:=by
 cases b<;>simp[pj]<;>omega
theorem U4 (x:aI)(n:Nat):(al x n).length+3<=pn x:=by
 unfold pn;cases x with
 | cat l =>
  simp only[al];by_cases h:1<n
  ·simp[h,pj]
  simp[h,pj]
 | alt l =>
  simp only[al];have h0:0<2:=by decide
  have h1:(bH l 1)=bH l 1:=rfl;by_cases h:0<n
  ·simp[h,pj]
  simp[h,pj]
 | _=>simp[al]
theorem Eo (n:Nat):(MW n).length<=2:=by unfold MW;split<;>(try split)<;>simp
theorem A7 (lo hi:Int):(u5 lo hi).length<=7:=by
 have h1:=Eo lo.toNat;have h2:=Eo hi.toNat;unfold u5
 repeat' split
 all_goals simp
 all_goals omega
theorem Y3 (x:aI)(lo hi:Int):pn (.many x lo hi)<=pn x+7:=by
 have:=A7 lo hi;unfold pn;simp only[al,List.length_append];omega
def zP (l:List aI):Nat:=(l.map pn).sum
theorem H0 (l:List aI)(x:aI):zP (l++[x])=zP l+pn x:=by simp[zP]
theorem Xq (l:List aI)(n:Nat):Go.Lib.lens (bH l n)+3*l.length<=zP l/\(bH l n).length=l.length:=by
 induction l with
 | nil=>simp[bH,Go.Lib.lens,zP]
 | cons x l ih =>
  have:=U4 x n;simp only[bH,Go.Lib.lens,zP,List.map_cons,List.sum_cons,List.length_cons]at *
  omega
theorem join_le (l:List aI)(n:Nat)(sep:List UInt8)(hs:sep.length<=3):(Go.Lib.join (bH l n) sep).length<=zP l:=by
 cases l with
 | nil=>simp[bH,Go.Lib.join_nil]
 | cons x l =>
  have h1:=Xq (x::l) n;simp only[bH]at *
  rw[Go.Lib.join_length];have h2:sep.length*(bH l n).length<=3*(bH l n).length:=Nat.mul_le_mul_right _ hs;simp only[List.length_cons]at h1;omega
theorem U2 (l:List aI):pn (.cat l)<=zP l+5:=by
 have:=join_le l 2 [32] (by decide)
 have:=(gY (decide (1<2)) (Go.Lib.join (bH l 2) [32])).2;unfold pn;simp only[al];omega
theorem UY (l:List aI):pn (.alt l)<=zP l+5:=by
 have:=join_le l 1 [32,124,32] (by decide)
 have:=(gY (decide (0<2)) (Go.Lib.join (bH l 1) [32,124,32])).2;unfold pn;simp only[al];omega
theorem aCZ (l:List aI):pn (rowOf l)<=zP l+5:=by
 match l with
 | []=>exact U2 []
 | [x]=>simp[rowOf,zP]
 | x::y::l=>exact U2 _
theorem UZ (l:List aI):pn (jW l)<=zP l+5:=by
 match l with
 | []=>exact UY []
 | [x]=>simp[jW,zP]
 | x::y::l=>exact UY _
theorem Ga:Me 0 (λ_=>0) eF:=Me.bE (Me.pb (d:=0) Me.eA (λt=>by
 by_cases h:12<r6 t.text
 ·rw[if_pos h];exact Me.fail
 rw[if_neg h];exact Me.pb (d:=0) Me.Y4 (λ_=>Me.pr.mono (by omega)) (by omega)) (by omega)) Me.fail
theorem Nj:Me 0 (λ_=>0) bR:=Me.pb (d:=0) Ga (λlo=>Me.bE (Me.pb (d:=0) Me.Y4 (λ_=>Me.bE (Me.pb (d:=0) Ga (λhi=>by
 by_cases h:hi<lo
 ·rw[if_pos h];exact Me.fail
 rw[if_neg h];exact Me.pb (d:=0) (iy _) (λ_=>Me.pr.mono (by omega)) (by omega)) (by omega)) (Me.pb (d:=0) (iy _) (λ_=>Me.pr.mono (by omega)) (by omega))) (by omega)) (Me.pb (d:=0) (iy _) (λ_=>Me.pr.mono (by omega)) (by omega))) (by omega)
def sn:Option (Int×Int)->Nat
 | none=>0
 | some _=>8
theorem Nk:Me 0 sn cF:=by
 have h:∀r,Me 0 sn (pb bV λ_=>pr (some r)):=λr=>Me.pb (d:=0) (Me.pop.qP (μ':=λ_=>8) λ_=>by omega) (λ_=>Me.pr) (by omega);refine Me.bE (h _) (Me.bE (h _) (Me.bE (h _) (Me.bE ?_ Me.pr)));exact Me.pb (d:=0) (Me.pop.qP (μ':=λ_=>8) λ_=>by omega) (λ_=>Me.pb (d:=8) Nj (λr=>Me.pr.mono (by show 8<=_;omega)) (by omega)) (by omega)
theorem tL (d:Nat):∀(n c:Nat) (x:aI),Me (pn x) pn (aw d n c x)
 | 0,_,_=>Me.fail
 | n+1,c,x=>Me.pb (d:=pn x) Nk (λr=>by
   cases r with
   | none=>exact Me.pr.mono (by omega)
   | some q =>
    show Me _ pn (if d<=c+1 then _ else _)
    by_cases h0:d<=c+1
    ·rw[if_pos h0];exact Me.fail
    rw[if_neg h0];refine(tL d n (c+1) _).mono ?_
    have:=Y3 x q.1 q.2
    show _<=8+pn x
    omega) (by omega)
theorem Ni {d:Nat}{unit:Pa aI}(h:Me 0 pn unit):Me 0 pn (aQ d unit):=Me.pb (d:=0) h (λx=>tL d _ _ _) (by omega)
theorem yI {again:Pa aI}(h:Me 0 pn again):∀(n:Nat) (a:List aI),Me (zP a) zP (bG again n a)
 | 0,_=>Me.fail
 | n+1,a=>Me.bE (Me.pb (d:=zP a) h (λx=>(yI h n _).mono (by rw[H0];omega)) (by omega)) Me.pr
theorem YC {again:Pa aI}(h:Me 0 pn again):Me 5 pn (gV again):=Me.pb (d:=5) (yI h _ _) (λps=>Me.pr.mono (by have:=aCZ ps;omega)) (by simp[zP])
theorem yH {row:Pa aI}(h:Me 5 pn row):∀(n:Nat) (a:List aI),Me (zP a) zP (eH row n a)
 | 0,_=>Me.fail
 | n+1,a=>Me.bE (Me.pb (d:=zP a) Me.pop (λ_=>Me.pb (d:=zP a) h (λx=>(yH h n _).mono (by rw[H0];omega)) (by omega)) (by omega)) Me.pr
theorem YA {row:Pa aI}(h:Me 5 pn row):Me 10 pn (IQ row):=Me.pb (d:=5) h (λx=>Me.pb (d:=5) (yH h _ _) (λps=>Me.pr.mono (by have:=UZ ps;omega)) (by simp[zP])) (by omega)
theorem LN {d:Nat}{unit:Pa aI}(h:Me 0 pn unit):Me 10 pn (AX d unit):=by
 unfold AX;by_cases h0:d=0
 ·rw[if_pos h0];exact Me.fail
 rw[if_neg h0];exact YA (YC (Ni h))
theorem To {p:Pa aI}(h:Me 10 pn p):Me 0 pn (pb bV λ_=>pb p λx=>pb (a7 [41]) λ_=>pr x):=λl x l' e=>by
 obtain⟨u,l1,e1,e2⟩:=eo e;obtain⟨y,l2,e3,e4⟩:=eo e2;obtain⟨v,l3,e5,e6⟩:=eo e4;cases e6;have a1:=Me.pop _ _ _ e1;have a2:=h _ _ _ e3;have a3:=iy _ _ _ _ e5;dsimp only at a1 a3;omega
theorem LP:∀d,Me 0 pn (aY d)
 | 0=>Me.fail
 | d+1=>Me.bE (Me.pb (d:=0) Me.pop (λ_=>Me.pr.mono (by decide)) (by omega)) (Me.bE (Me.pb (d:=0) Me.pop (λ_=>Me.pr.mono (by decide)) (by omega))
   (Me.bE (To (LN (LP d)))
    (Me.bE (Me.pb (d:=0) (DP (d+1)) (λk=>Me.pr.mono (by show (al (.one k) 2).length+3<=_;simp only[al];unfold kn;omega)) (by omega)) Me.fail)))
theorem Tp (d:Nat):Me 10 pn (j8 d):=LN (LP d)
def rn (r:cW):Nat:=(fz r).length
theorem aHo (r:cW):rn r<=pn r.before+pn r.after+5:=by
 have h1:=U4 r.before 0;have h2:=U4 r.after 0;have a:(if r.brk=true then [98,114,101,97,107,32] else [107,101,101,112,32]:List UInt8).length<=6:=by split<;>simp
 have b:(if al r.before 0=[] then [] else al r.before 0++[32]:List UInt8).length<=(al r.before 0).length+1:=by split<;>simp
 have c:(if al r.after 0=[] then [] else 32::al r.after 0:List UInt8).length<=(al r.after 0).length+1:=by split<;>simp
 have e:rn r=(if r.brk=true then [98,114,101,97,107,32] else [107,101,101,112,32]:List UInt8).length+(if al r.before 0=[] then [] else al r.before 0++[32]:List UInt8).length+1+(if al r.after 0=[] then [] else 32::al r.after 0:List UInt8).length+2:=by
  unfold rn fz;rw[List.length_append,List.length_append,List.length_append,List.length_append];rfl
 omega
theorem LO:Me 0 (λ_=>9) ep:=Me.bE (Me.pb (d:=0) Me.pop (λ_=>Me.pr.mono (by omega)) (by omega)) (Me.pb (d:=0) (iy _) (λ_=>Me.pr.mono (by omega)) (by omega))
theorem YD:Me 0 rn iq:=λl r l' e=>by
 obtain⟨t,l0,e0,e⟩:=eo e;obtain⟨b,l1,e1,e⟩:=eo e;obtain⟨x,l2,e2,e⟩:=eo e;obtain⟨_,l3,e3,e⟩:=eo e;obtain⟨y,l4,e4,e⟩:=eo e;obtain⟨_,l5,e5,e⟩:=eo e;cases e;cases e0;have a1:=LO _ _ _ e1;have a2:=Tp _ _ _ _ e2;have a3:=iy _ _ _ _ e3;have a4:=Tp _ _ _ _ e4;have a5:=iy _ _ _ _ e5;have a6:rn ⟨(hd l).pos,b,x,y⟩<=pn x+pn y+5:=aHo ⟨(hd l).pos,b,x,y⟩;simp only at a1 a3 a5;omega
def cn (c:eD):Nat:=(tw c).length
theorem Tn:Me 0 cn iX:=λl r l' e=>by
 obtain⟨t,l0,e0,e⟩:=eo e;obtain⟨_,l1,e1,e⟩:=eo e;obtain⟨n,l2,e2,e⟩:=eo e;obtain⟨_,l3,e3,e⟩:=eo e;obtain⟨k,l4,e4,e⟩:=eo e;obtain⟨_,l5,e5,e⟩:=eo e;cases e;cases e0;have a1:=iy _ _ _ _ e1;have a2:=LM _ _ _ e2;have a3:=iy _ _ _ _ e3;have a4:=G9 (DP 9) _ _ _ e4;have a5:=iy _ _ _ _ e5
 have:=TY k false;dsimp only at a1 a2 a3 a5;simp only[cn,tw,List.length_append,List.length_cons,List.length_nil];omega
theorem vC:∀(n:Nat) (acc:List cW),Me (acc.map rn).sum (λl=>(l.map rn).sum) (bA n acc)
 | 0,_=>Me.fail
 | n+1,acc=>Me.bE (by
   by_cases h:acc.length=20
   ·rw[if_pos h];exact Me.fail
   rw[if_neg h];intro l x l' e;obtain⟨r,l1,e1,e2⟩:=eo e;have a1:=YD _ _ _ e1;have a2:=vC n _ _ _ _ e2;simp only[List.map_append,List.sum_append,List.map_cons,List.map_nil,List.sum_cons,List.sum_nil,List.length_append,List.length_cons,List.length_nil]at a2;dsimp only;omega) Me.pr
theorem tM:∀(n:Nat) (acc:List eD),Me (acc.map cn).sum (λl=>(l.map cn).sum) (az n acc)
 | 0,_=>Me.fail
 | n+1,acc=>Me.bE (by
   by_cases h:acc.length=20
   ·rw[if_pos h];exact Me.fail
   rw[if_neg h];intro l x l' e;obtain⟨r,l1,e1,e2⟩:=eo e;have a1:=Tn _ _ _ e1;have a2:=tM n _ _ _ _ e2;simp only[List.map_append,List.sum_append,List.map_cons,List.map_nil,List.sum_cons,List.sum_nil]at a2;dsimp only;omega) Me.pr
theorem YB:Me 0 (λ_=>0) ia:=Me.bE (Me.pb (d:=0) Me.Y4 (λ_=>Me.pb (d:=0) (LO.qP (μ':=λ_=>0) (λ_=>by omega)) (λ_=>Me.pb (d:=0) (iy _) (λ_=>Me.pr.mono (by omega)) (by omega)) (by omega)) (by omega)) Me.pr
theorem Af {α:Type}(f:α->List UInt8)(l:List α):(l.flatMap f).length=(l.map λx=>(f x).length).sum:=by
 rw[List.length_flatMap]
theorem HY {s:List UInt8}{f:dQ}(h:dM s=.ok f):(lu f).length<=11*s.length+60:=by
 obtain⟨l,l',tl,hn,hf,_⟩:=OI h;obtain⟨l1,l2,h1,h2,h3⟩:=SA hf;have a1:=tM _ _ _ _ _ h1;have a2:=vC _ _ _ _ _ h2;have a3:=YB _ _ _ h3;simp only[List.map_nil,List.sum_nil,List.length_nil]at a1 a2;have hW:W (l++[⟨5,[],s.length⟩])<=11*s.length+9:=by
  obtain⟨s1,s2⟩:=tl.sum;have:∀l:List Cae.Tok,(∀t∈l,0<t.text.length)->W (l++[⟨5,[],s.length⟩])<=11*A6 l+9:=by
   intro l hl;induction l with
   | nil=>simp[W,A6]
   | cons t l ih =>
    have h1:=ih (λt ht=>hl t (List.mem_cons_of_mem _ ht));have h2:=hl t (by simp);rw[List.cons_append,Bg];have:A6 (t::l)=t.text.length+A6 l:=by simp[A6]
    omega
  have:=this l s2;omega
 have e:(lu f).length=(f.bJ.map cn).sum+(f.rules.map rn).sum+(sg f.els).length:=by
  unfold lu;rw[List.length_append,List.length_append,Af,Af];rfl
 have e2:(sg f.els).length<=11:=by unfold sg;split<;>simp
 omega
end Cae
end
section
namespace Go.Vc
open Go.RowKit
section
variable {P:Program} {t:Fr} {w:World} {K:VK} {Q:EP}
def Lu (P:Program)(f:FuncId)(args:List Value)(w:World)(R:VK)(E:List PanicEntry->World->Prop):Prop :=
 (callFunc f args.toArray).run P w=.ok (.enter f args.toArray) w/\Calls P f args.toArray w λe w'=>match e with
  | .returned v=>R v w'
  | .panicked c=>E c w'
  | .outgrown=>False
theorem aK {f:FuncId}{args:List Value}{R:VK}{E:List PanicEntry->World->Prop}{p}(h:Lu P f args w R E)(k:∀v w',R v w'->K v w')(ke:∀c w',E c w'->Q (.panic c) t w'):ag P f args t w K Q p:=by
 unfold ag;rw[h.1];exact h.2.mono λe w' he=>by cases e<;>first|exact k _ _ he|exact ke _ _ he|exact he.elim
def Uf (P:Program)(rs:List ResultVar)(R:VK)(E:List PanicEntry->World->Prop)(_:Ph (R,E)):EP
 | .normal,t,w=>oT P t w rs λvs=>R (vn vs) w
 | .ret,t,w=>oT P t w rs λvs=>R (vn vs) w
 | .panic c,_,w=>E c w
 | _,_,_=>False
variable {R:VK} {E:List PanicEntry->World->Prop}
theorem HB (rs)(p):Uf P rs R E p .normal t w=oT P t w rs λvs=>R (vn vs) w:=(rfl)
theorem Ug (rs)(p):Uf P rs R E p .ret t w=oT P t w rs λvs=>R (vn vs) w:=(rfl)
theorem Jw (rs)(c)(p):Uf P rs R E p (.panic c) t w=E c w:=(rfl)
theorem dm {f:FuncId}{fn:Func}{c:Code}{args:List Value}(hf:P.funcs[f]?=some fn)(hb:fn.body=some c)(hn:(fn.name == "runtime.NumGoroutine")=false)
  (rs:List ResultVar) (fO:fn.results=rs.toArray) (h:vc P c (Uf P rs R E .mk) (sq args fn.ntmps) w .mk):Lu P f args w R E:=by
 refine⟨cR hf (by simp[hb]) hn,calls_of_wp hf hb ?_⟩;have h1:=nt c _ _ w h;unfold cw at h1;have e:(args.toArray++Array.replicate (fn.ntmps-args.toArray.size) undef)=(sq args fn.ntmps).toArray:=by simp[sq]
 rw[e];refine Code.wp_mono ?_ h1;rintro e a w' ⟨hd,hh⟩;have ha:a.tmps.toList.toArray=a.tmps:=by simp
 cases e<;>simp only[Uf]at hh<;>first|exact hh.elim|skip
 ·obtain⟨vs,hv,hk⟩:=dL fn rs fO _ _ hh;exact⟨hd,_,by rw[<-ha];exact hv,hk⟩
 ·obtain⟨vs,hv,hk⟩:=dL fn rs fO _ _ hh;exact⟨hd,_,by rw[<-ha];exact hv,hk⟩
 exact⟨hd,hh⟩
theorem aCX {ty:TypeId}{v:Value}{p}(k:Q (.panic [{ v:=.iface ty v,recovered:=false }]) t w):aq P (Instr.panic (.iface ty v)) t w K Q p:=by
 unfold aq;have:((do pure (Next.value (<-Instr.panic (.iface ty v))):Sem Next).run P w)=.halt (.panic (.iface ty v)) w:=rfl;rw[this];exact k
end
attribute [push_cast] HB Ug Jw yh sZ
end Go.Vc
end
section
end
section
namespace Go.Vc
open Go.RowKit
section
variable {P:Program} {ops:Array Oper} {m:Nat} {E:List PanicEntry->World->Prop} {w:World}
def eS (P:Program)(ops:Array Oper)(w:World)(i:Nat)(K:Act->Prop)(a:Act):Prop :=
 match ops[i]? with
 | none=>K a
 | some o=>if Region.wanted o (yielded ops a.tmps) then ∃v,(execOp a.eval o).run P w=.ok (.value v) w/\K (a.put o.dst v) else K (a.put o.dst undef)
def pP (P:Program)(ops:Array Oper)(w:World)(m:Nat)(E:List PanicEntry->World->Prop)(a:Act):Prop :=
 a.defers=[]/\∃o,ops[m]?=some o/\Region.wanted o (yielded ops a.tmps)=true/\∃f args w',(execOp a.eval o).run P w=.ok (.enter f args) w'/\Calls P f args w' λe ar=>∃c,e=.panicked c/\E c ar
def wpB (P:Program)(ops:Array Oper)(w:World)(m:Nat)(E:List PanicEntry->World->Prop):Nat->Array Bool->Act->Prop
 | 0,_,_=>False
 | n+1,listed,a=>Region.ready .any ops listed≠[]/\∀i∈Region.ready .any ops listed,if i=m then pP P ops w m E a else eS P ops w i (wpB P ops w m E n (listed.setIfInBounds i true)) a
theorem oS {i:Nat}{K K':Act->Prop}{a:Act}(hk:∀a,K a->K' a)(h:eS P ops w i K a):eS P ops w i K' a:=by
 unfold eS at *
 split
 ·rename_i ho;simp only[ho]at h;exact hk _ h
 rename_i o ho;simp only[ho]at h;split
 ·rename_i hw;simp only[hw,if_true]at h;obtain⟨v,h1,h2⟩:=h;exact⟨v,h1,hk _ h2⟩
 rename_i hw;simp only[hw]at h;exact hk _ h
theorem put_defers (a:Act)(d:Option Tmp)(v:Value):(a.put d v).defers=a.defers:=by cases d<;>rfl
theorem D2 {i j:Nat}{oi oj:Oper}{K:Act->Prop}{a:Act}(hi:ops[i]?=some oi)(hj:ops[j]?=some oj)(Pp:oi.apart ops oj=true)
  (hsi:∀cs b,oi.op≠.select cs b) (hsj:∀cs b,oj.op≠.select cs b) (h:eS P ops w i (eS P ops w j K) a):eS P ops w j (eS P ops w i K) a:=by
 obtain⟨h1,h2,h3⟩:=Oper.apart_spec Pp;have ej:∀(b:Act) (v:Value),execOp (b.put oi.dst v).eval oj=execOp b.eval oj:=λb v=>execOp_put oj hsj b oi.dst v h1;have ei:∀(b:Act) (v:Value),execOp (b.put oj.dst v).eval oi=execOp b.eval oi:=λb v=>execOp_put oi hsi b oj.dst v h3;have wj:∀(b:Act) (v:Value),Region.wanted oj (yielded ops (b.put oi.dst v).tmps)=Region.wanted oj (yielded ops b.tmps):=λb v=>wanted_put oj b oi.dst v h1;have wi:∀(b:Act) (v:Value),Region.wanted oi (yielded ops (b.put oj.dst v).tmps)=Region.wanted oi (yielded ops b.tmps):=λb v=>wanted_put oi b oj.dst v h3;have cm:∀(b:Act) (v u:Value),(b.put oi.dst v).put oj.dst u=(b.put oj.dst u).put oi.dst v:=λb v u=>Act.put_comm b v u h2;unfold eS at h ⊢
 simp only[hi,hj,ej,ei,wj,wi]at h ⊢
 cases mV:Region.wanted oi (yielded ops a.tmps)<;>cases qx:Region.wanted oj (yielded ops a.tmps)<;>simp only[mV,qx,Bool.false_eq_true,if_true,if_false]at h ⊢
 ·rw[<-cm];exact h
 ·obtain⟨v,hv,hk⟩:=h;exact⟨v,hv,by rw[<-cm];exact hk⟩
 ·obtain⟨v,hv,hk⟩:=h;exact⟨v,hv,by rw[<-cm];exact hk⟩
 obtain⟨v,hv,u,hu,hk⟩:=h;exact⟨u,hu,v,hv,by rw[<-cm];exact hk⟩
theorem EZ {i:Nat}{oi om:Oper}{a:Act}(hi:ops[i]?=some oi)(hj:ops[m]?=some om)(Pp:oi.apart ops om=true)(hsj:∀cs b,om.op≠.select cs b)(h:eS P ops w i (pP P ops w m E) a):pP P ops w m E a:=by
 obtain⟨h1,h2,h3⟩:=Oper.apart_spec Pp;have key:∀v,pP P ops w m E (a.put oi.dst v)->pP P ops w m E a:=λv ⟨hd,o,ho,hw,f,args,w',hr,hc⟩=>by
  rw[hj]at ho;cases ho;refine⟨by rw[<-put_defers a oi.dst v];exact hd,om,hj,by rw[<-wanted_put om a oi.dst v h1];exact hw,f,args,w',by rw[<-execOp_put om hsj a oi.dst v h1];exact hr,hc⟩
 unfold eS at h;simp only[hi]at h;split at h
 ·obtain⟨v,_,hk⟩:=h;exact key v hk
 exact key _ h
theorem PV {i:Nat}{oi:Oper}(hi:ops[i]?=some oi)(him:i≠m)(DE:∀(j:Nat) (o:Oper) cs b,ops[j]?=some o->o.op≠.select cs b) :
  ∀(fuel:Nat) (listed:Array Bool) (a:Act),vY ops listed ->
   (∀j oj,ops[j]?=some oj->j≠i->listed.getD j true=false->((Region.before ops).getD j 0).testBit i=false->oi.apart ops oj=true) ->
   i∈Region.ready .any ops listed->eS P ops w i (wpB P ops w m E fuel (listed.setIfInBounds i true)) a->wpB P ops w m E (fuel+1) listed a:=by
 intro fuel;induction fuel with
 | zero =>
  intro listed a _ _ hr H;exfalso;unfold eS at H;simp only[hi]at H;split at H
  ·obtain⟨v,_,hk⟩:=H;exact hk
  exact H
 | succ fuel ih =>
  intro listed a hS rI hr H;refine⟨λh=>(by rw[h]at hr;cases hr),λj hj=>?_⟩;by_cases uI:j=i
  ·subst uI;rw[if_neg him];exact H
  obtain⟨GF,oj,EI,cg⟩:=mem_ready.1 hj;have Sk:listed.getD i false=false:=by
   have h0:=(mem_ready.1 hr).1;rcases Nat.lt_or_ge i listed.size with h'|h'
   ·simp[h']at h0 ⊢;exact h0
   simp[Array.getElem?_eq_none h']
  have Sv:((Region.before ops).getD j 0).testBit i=false:=by
   cases hb:((Region.before ops).getD j 0).testBit i with
   | false=>rfl
   | true=>have:=hS.before j i oj EI cg hb;rw[Sk]at this;cases this
  have Pp:=rI j oj EI uI GF Sv;have h1:eS P ops w i (λa=>if j=m then pP P ops w m E a else eS P ops w j (wpB P ops w m E fuel ((listed.setIfInBounds i true).setIfInBounds j true)) a) a :=
   oS (λa' hh=>hh.2 j (ready_mono hj uI)) H
  by_cases Zt:j=m
  ·subst Zt;simp only[if_true]at h1 ⊢
   exact EZ hi EI Pp (λcs b=>DE j oj cs b EI) h1
  simp only[if_neg Zt]at h1 ⊢
  have h2:=D2 hi EI Pp (λcs b=>DE i oi cs b hi) (λcs b=>DE j oj cs b EI) h1;refine oS (λa' h3=>ih (listed.setIfInBounds j true) a' (hS.set hj) ?_ (ready_mono hr (Ne.symm uI)) ?_) h2
  ·intro k ok hk hki xm gC;refine rI k ok hk hki ?_ gC;by_cases XX:j=k
   ·subst XX;exact GF
   rw[getD_set_ne true XX]at xm;exact xm
  rw[Array.setIfInBounds_comm _ _ uI];exact h3
def uX (ops:Array Oper)(bf:Array Nat)(listed:Array Bool)(i:Nat):Bool :=
 match ops[i]? with
 | none=>false
 | some oi=>(List.range ops.size).all λj=>j == i || listed.getD j true || match ops[j]? with
   | some oj=>(bf.getD j 0).testBit i || oi.apart ops oj
   | none=>true
theorem yZ {i:Nat}{oi:Oper}{listed:Array Bool}(hi:ops[i]?=some oi)(h:uX ops (Region.before ops) listed i=true)(j:Nat)(oj:Oper)
  (hj:ops[j]?=some oj) (dA:j≠i) (xm:listed.getD j true=false) (gC:((Region.before ops).getD j 0).testBit i=false):oi.apart ops oj=true:=by
 simp only[uX,hi,List.all_eq_true,List.mem_range]at h;have h1:=h j (Array.getElem?_eq_some_iff.1 hj).1;simp only[hj,Bool.or_eq_true,beq_iff_eq,dA,false_or,xm,Bool.false_eq_true,gC]at h1;exact h1
def pO (P:Program)(ops:Array Oper)(bf:Array Nat):Nat->Nat->Array Bool->Bool
 | 0,k,listed=>Region.ready .any ops listed == [k]
 | n+1,k,listed=>(Region.ready .any ops listed).contains k && uX ops bf listed k && pO P ops bf n (k+1) (listed.setIfInBounds k true)
def Z0 (P:Program)(ops:Array Oper)(m:Nat):Bool:=Region.noSelect ops && decide (m<ops.size) && pO P ops (Region.before ops) m 0 (Array.replicate ops.size false)
def s7 (P:Program)(ops:Array Oper)(w:World)(m:Nat)(E:List PanicEntry->World->Prop):List Nat->Act->Prop
 | [],a=>pP P ops w m E a
 | i::r,a=>eS P ops w i (s7 P ops w m E r) a
theorem Lr (hs:Region.noSelect ops=true):∀(n k f:Nat) (listed:Array Bool) (a:Act),k+n=m->m<ops.size->n<f->vY ops listed ->
  pO P ops (Region.before ops) n k listed=true->s7 P ops w m E (List.range' k n) a->wpB P ops w m E f listed a
 | 0,k,f,listed,a,hk,hm,hf,hS,hB,h=>by
  obtain⟨f',rfl⟩:∃f',f=f'+1:=⟨f-1,by omega⟩;have hr:Region.ready .any ops listed=[k]:=by simpa[pO] using hB
  have hkm:k=m:=by omega
  refine⟨by rw[hr];simp,λi hi=>?_⟩;rw[hr]at hi;obtain rfl:=List.mem_singleton.1 hi;rw[if_pos hkm];exact h
 | n+1,k,f,listed,a,hk,hm,hf,hS,hB,h=>by
  obtain⟨f',rfl⟩:∃f',f=f'+1:=⟨f-1,by omega⟩;simp only[pO,Bool.and_eq_true]at hB;obtain⟨⟨hr,rI⟩,Cq⟩:=hB;have bZ:k<ops.size:=by omega
  have zK:k∈Region.ready .any ops listed:=by simpa using hr
  refine PV (i:=k) (oi:=ops[k]) (by simp[bZ]) (by omega) (Region.noSelect_spec hs) f' listed a hS (yZ (by simp[bZ]) rI) zK ?_;simp only[List.range'_succ,s7]at h;exact oS (λa' hh=>Lr hs n (k+1) f' _ a' (by omega) hm (by omega) (hS.set zK) Cq hh) h
theorem kF {Q:Exit->Act->World->Prop}(hq:∀c a w',a.defers=[]->E c w'->Q (.panic c) a w'):∀(fuel:Nat) (listed:Array Bool) (a:Act),wpB P ops w m E fuel listed a->wpAny P .any ops Q fuel listed a w
 | 0,_,_,h=>h.elim
 | fuel+1,listed,a,h=>⟨λh0=>absurd h0 h.1,λi hi=>by
   have h1:=h.2 i hi;by_cases him:i=m
   ·subst him;rw[if_pos rfl]at h1;obtain⟨hd,o,ho,hw,f,args,w',hr,hc⟩:=h1;unfold wpOp;simp only[ho,hw,if_true];refine .inl ?_;unfold Oper.wp;rw[hr];unfold Oper.upon;exact hc.mono λe ar ⟨c,he,hE⟩=>by subst he;exact hq c a ar hd hE
   rw[if_neg him]at h1;unfold eS at h1;unfold wpOp;split
   ·rename_i ho;simp only[ho]at h1;exact kF hq fuel _ _ h1
   rename_i o ho;simp only[ho]at h1;split
   ·rename_i hw;simp only[hw,if_true]at h1;obtain⟨v,hv,hk⟩:=h1;refine .inl ?_;unfold Oper.wp;rw[hv];exact kF hq fuel _ _ hk
   rename_i hw;simp only[hw]at h1;exact kF hq fuel _ _ h1⟩
def Ee (P:Program)(g:FuncId)(args:List Value)(w:World)(E:List PanicEntry->World->Prop)(_:Ph E):Prop:=(callFunc g args.toArray).run P w=.ok (.enter g args.toArray) w/\Calls P g args.toArray w λe ar=>∃c,e=.panicked c/\E c ar
def EY (P:Program)(o:Oper)(t:Fr)(w:World)(E:List PanicEntry->World->Prop)(_:Ph (o,E)):Prop:=match o.guard,o.op with
 | none,.call { callee:=.value f,args,argTypes:=_ }=>(match ev t f with
  | .func (.func g) first cap=>Ee P g (first.toList++args.toList.map (ev t)++cap.toList) w E .mk
  | _=>False)
 | _,_=>False
def qM (P:Program)(ops:List Oper)(E:List PanicEntry->World->Prop):List Unit->(l:List Oper)->Fr->World->Ph (ops,E,l)->Prop
 | [],o::_,t,w,_=>EY P o t w E .mk
 | _::n,o::r,t,w,_=>chain P o=false/\match o.guard with
  | none=>dT P o t w (·=w) (λv _=>qM P ops E n r (put t o.dst v) w .mk) .mk
  | some (j,want)=>gJ (iE ops j) want t (λt'=>dT P o t' w (·=w) (λv _=>qM P ops E n r (put t' o.dst v) w .mk) .mk) (λt'=>qM P ops E n r (put t' o.dst undef) w .mk) .mk
 | _,[],_,_,_=>False
theorem nO {g:FuncId}{args:List Value}{R:VK}{E':List PanicEntry->World->Prop}{p}(h:Lu P g args w R E')(hR:∀v w',¬R v w')(k:∀c w',E' c w'->E c w'):Ee P g args w E p :=
 ⟨h.1,h.2.mono λe w' he=>by cases e<;>first|exact absurd he (hR _ _)|exact⟨_,rfl,k _ _ he⟩|exact he.elim⟩
theorem nj {ops:List Oper}{i:Nat}{o:Oper}{t:Fr}{K:VK}{N:Act->Prop}(hi:ops[i]?=some o)(hw:Region.wanted o (yielded ops.toArray t.toArray)=true)(hc:chain P o=false)
  (hn:∀v,K v w->N ⟨(put t o.dst v).toArray,[]⟩) (h:dT P o t w (·=w) K .mk):eS P ops.toArray w i N ⟨t.toArray,[]⟩:=by
 unfold eS;simp only[List.getElem?_toArray,hi,hw,if_true,ln];unfold dT at h;split at h
 ·rename_i ty x ho;obtain⟨v,hr,_,hk⟩:=nd ho h;exact⟨v,hr,by rw[put_eq];exact hn _ hk⟩
 ·rename_i x ho;unfold Gi at h;split at h
  ·rename_i a hx;refine⟨_,?_,by rw[put_eq];exact hn _ h⟩;unfold execOp;simp only[ho,hx];rfl
  exact h.elim
 simp only[hc,Bool.false_eq_true,if_false]at h;rcases qC h with h|⟨v,hg,hk⟩
 ·exact h.elim
 exact⟨v,hg w,by rw[put_eq];exact hn _ hk⟩
theorem MH {ops:List Oper}{m:Nat}{o:Oper}{t:Fr}(hi:ops[m]?=some o)(h:EY P o t w E .mk):pP P ops.toArray w m E ⟨t.toArray,[]⟩:=by
 unfold EY at h;split at h
 ·rename_i f args lg hg ho;split at h
  ·rename_i g first cap hf
   refine⟨rfl,o,by simpa using hi,by simp[Region.wanted,hg],g,_,w,?_,h.2⟩;rw[ln];unfold execOp;have e:(first.toList++args.toList.map (ev t)++cap.toList).toArray=first++args.map (ev t)++cap:=by apply Array.ext';simp
   have h1:=h.1;rw[e]at h1 ⊢
   simp only[ho,resolve,hf,Deferred.ofValue,Sem.run_bind,Sem.run_pure,Result.andThen_ok,invoke];exact h1
  exact h.elim
 exact h.elim
theorem xG {ops:List Oper}{m:Nat}:∀(n:List Unit) (k:Nat) (l:List Oper) (t:Fr),k+n.length=m->(∀j,l[j]?=ops[k+j]?)->qM P ops E n l t w .mk->s7 P ops.toArray w m E (List.range' k n.length) ⟨t.toArray,[]⟩
 | [],k,[],t,hk,hl,h=>h.elim
 | [],k,o::r,t,hk,hl,h=>MH (by have:=hl 0;simpa[<-hk] using this.symm) h
 | _::n,k,[],t,hk,hl,h=>h.elim
 | _::n,k,o::r,t,hk,hl,h=>by
  have h0:ops[k]?=some o:=by simpa using(hl 0).symm
  have ih:=λt=>xG (m:=m) n (k+1) r t (by rw[List.length_cons]at hk;omega) (λj=>by have:=hl (j+1);simpa[Nat.add_assoc,Nat.add_comm 1 j] using this);simp only[List.length_cons,List.range'_succ,s7];obtain⟨hc,h⟩:=h;split at h
  ·rename_i hg;exact nj h0 (by simp[Region.wanted,hg]) hc (λv hk=>ih _ hk) h
  rename_i j want hg;rcases kJ hg h with ⟨hw,hh⟩|⟨hw,hh⟩
  ·exact nj h0 hw hc (λv hk=>ih _ hk) hh
  unfold eS;simp only[List.getElem?_toArray,h0,hw,Bool.false_eq_true,if_false];rw[put_eq];exact ih _ hh
theorem nu {id:Nat}{l:List Oper}{t:Fr}{Q:EP}{p}(m:List Unit)(hm:P.follows .mixedOrders=true)(hB:Z0 P l.toArray m.length=true)(hq:∀c t w',E c w'->Q (.panic c) t w')
  (h:qM P l E m l t w.drew .mk):cw P (.region id l.toArray true) Q t w p:=by
 unfold cw;simp only[Z0,Bool.and_eq_true,decide_eq_true_eq]at hB;refine wp_region_any hm ?_;refine kF (E:=E) (m:=m.length) (λc a w' hd hE=>⟨hd,hq c _ w' hE⟩) _ _ _ ?_;exact Lr hB.1.1 m.length 0 _ _ _ (by omega) hB.1.2 hB.1.2 (λj o _ hl=>by simp[Array.getElem?_replicate]at hl;split at hl<;>simp at hl) hB.2 (xG m 0 l t (by omega) (λj=>by simp) h)
theorem H9 (ops)(o:Oper)(r)(p)(t:Fr):qM P ops E [] (o::r) t w p=EY P o t w E .mk:=(rfl)
theorem Dn (ops)(u:Unit)(n)(d op ty pos af r)(p)(t:Fr):qM P ops E (u::n) (⟨d,op,ty,pos,af,none⟩::r) t w p=(chain P ⟨d,op,ty,pos,af,none⟩=false/\dT P ⟨d,op,ty,pos,af,none⟩ t w (·=w) (λv _=>qM P ops E n r (put t d v) w .mk) .mk):=(rfl)
def aFj (P:Program)(f:Value)(args:List Value)(w:World)(E:List PanicEntry->World->Prop)(_:Ph E):Prop:=match f with
 | .func (.func g) first cap=>Ee P g (first.toList++args++cap.toList) w E .mk
 | _=>False
theorem I1 (d f)(args:List Operand)(lg ty pos af)(p)(t:Fr):EY P ⟨d,.call { callee:=.value f,args:=args.toArray,argTypes:=lg },ty,pos,af,none⟩ t w E p=aFj P (ev t f) (args.map (ev t)) w E .mk:=(rfl)
theorem Mq (g:FuncId)(args:List Value)(p):aFj P (.func (.func g) #[] #[]) args w E p=Ee P g args w E .mk:=by
 show Ee P g (#[].toList++args++#[].toList) w E .mk=_
 simp
end
section
variable {P:Program}
theorem Wd (d x ty pos af g):chain P ⟨d,.move x,ty,pos,af,g⟩=false:=(rfl)
theorem MJ (d x ty pos af g):chain P ⟨d,.assign x,ty,pos,af,g⟩=false:=(rfl)
theorem aAQ (d x ty pos af g):chain P ⟨d,.nilCheck x,ty,pos,af,g⟩=false:=(rfl)
theorem Wc (d t x ty pos af g):chain P ⟨d,.load t x,ty,pos,af,g⟩=false:=(rfl)
theorem CC (d t x f ty pos af g):chain P ⟨d,.fieldAddr t x f,ty,pos,af,g⟩=false:=(rfl)
end
attribute [push_cast] I1 Mq H9 Dn Wd MJ aAQ Wc CC
end Go.Vc
end
section
namespace Go.Proofs.YtodeeahdhnjpkaaGreatDoor
open Go.Vc Go.Proofs Go.RowKit Cae
attribute [local irreducible] cw ag aq a8 runK bD Sl Vc.Own vc aW cN ai
theorem PK:(Tryz.prog.underlying 81).isSome=true:=by kernel_rfl
attribute [push_cast] PK
def fF (t:Cae.Tok):List Value:=[.int .i64 t.kind,str t.text,.int .i64 t.pos]
structure TL (l:List Cae.Tok):Prop where
 last:∃i e,l=i++[e]/\e.kind=5
 txt:∀t∈l,t.text.length<=1000000
 len:l.length<=900
 num:∀t∈l,t.kind=2->t.text≠[]/\∀c∈t.text,bu c=true
theorem TL.cons {l:List Cae.Tok}(h:TL l):∃t r,l=t::r:=by
 obtain⟨i,e,rfl,_⟩:=h.last;cases i with
 | nil=>exact⟨e,[],rfl⟩
 | cons x i=>exact⟨x,i++[e],rfl⟩
theorem TL.tail {t:Cae.Tok}{r:List Cae.Tok}(h:TL (t::r))(h5:t.kind≠5):TL r:=by
 obtain⟨i,e,he,Dz⟩:=h.last;refine⟨?_,λx hx=>h.txt x (List.mem_cons_of_mem _ hx),by have:=h.len;rw[List.length_cons]at this;omega,λx hx=>h.num x (List.mem_cons_of_mem _ hx)⟩;cases i with
 | nil=>simp at he;rw[he.1]at h5;exact absurd Dz h5
 | cons x i=>simp at he;exact⟨i,e,he.2,Dz⟩
structure PS (pb B:Nat)(w:World)(l:List Cae.Tok):Prop where
 st:∃v,aO w pb 88 [v]/\Sl (λb=>b=pb\/B<=b) 3 (En fF) w v l
 lt:pb<B
 le:B<=w.heap.size
 tl:TL l
 db:Db w
 er:lZ w
 gl:14<=pb
theorem lZ.kept {X:Nat->Prop}{w w':World}(h:lZ w)(hb:Kept X w w')(hX:∀i,i<14->¬X i):lZ w':=by
 obtain⟨⟨t,p,h1⟩,⟨t',p',h2⟩⟩:=h;exact⟨⟨t,p,hb.cell h1 (hX _ (by decide))⟩,⟨t',p',hb.cell h2 (hX _ (by decide))⟩⟩
theorem Db.kept {X:Nat->Prop}{w w':World}(h:Db w)(hb:Kept X w w')(hX:∀i,i<14->¬X i):Db w':=hb.cell h (hX _ (by decide))
theorem PS.kept {pb B:Nat}{w w':World}{l:List Cae.Tok}{Y:Nat->Prop}(h:PS pb B w l)(hk:Kept Y w w')(hY:∀i,Y i->B<=i):PS pb B w' l:=by
 obtain⟨v,h1,h2⟩:=h.st;have hl:=h.lt;have hg:=h.gl;exact⟨⟨v,h1.kept hk (λhh=>by have:=hY _ hh;omega),h2.kept hk (λi hi=>.inr (hY i hi))⟩,h.lt,Nat.le_trans h.le hk.size,h.tl,h.db.kept hk (λi hi hh=>by have:=hY _ hh;omega),h.er.kept hk (λi hi hh=>by have:=hY _ hh;omega),h.gl⟩
theorem PS.below {pb B:Nat}{w w':World}{l:List Cae.Tok}(h:PS pb B w l)(hk:Below w.heap.size w w'):PS pb B w' l :=
 h.kept (Kept.aJ hk (X:=λi=>w.heap.size<=i) (λi h1 h2=>h1)) (λi hi=>Nat.le_trans h.le hi)
theorem PS.hd {pb B:Nat}{w:World}{t:Cae.Tok}{r:List Cae.Tok}(h:PS pb B w (t::r)):∃b o c,aO w pb 88 [.slice (some ⟨b,o,none⟩) (r.length+1) c]/\r.length+1<=c/\b≠pb /\
  w.cell? ⟨b,o,none⟩=some (.int .i64 t.kind)/\w.cell? ⟨b,o+1,none⟩=some (str t.text)/\w.cell? ⟨b,o+2,none⟩=some (.int .i64 t.pos)/\aB w ⟨b,o,none⟩ 0 3=some [.int .i64 t.kind,str t.text,.int .i64 t.pos]:=by
 obtain⟨v,h1,h2⟩:=h.st;obtain⟨a,c,rfl,hc⟩:=h2.shape;obtain⟨b,o,rfl,hb,aP⟩:=h2.get (i:=0) (x:=t) rfl;refine⟨b,o,c,h1,hc,λe=>hb (.inl e),?_,?_,?_,bL (fF t) 0 (λj u hu=>by have:=aP j u hu;simpa using this)⟩
 ·have:=aP 0 _ rfl;simpa using this
 ·have:=aP 1 _ rfl;simpa using this
 have:=aP 2 _ rfl;simpa using this
theorem PS.pop {pb B b o c:Nat}{w w':World}{t:Cae.Tok}{r:List Cae.Tok}(h:PS pb B w (t::r))(hb:aO w pb 88 [.slice (some ⟨b,o,none⟩) (r.length+1) c])(h5:t.kind≠5)
  (hp:Lz w w' pb 88 [.slice (if (c:Int)=1 then some ⟨b,o,none⟩ else some ⟨b,o+3,none⟩) r.length (c-1)]):PS pb B w' r:=by
 have hl:=h.lt;have hg:=h.gl;have GO:=h.tl.tail h5;obtain⟨t2,r2,rfl⟩:=GO.cons;obtain⟨v,h1,h2⟩:=h.st;have e:v=.slice (some ⟨b,o,none⟩) ((t2::r2).length+1) c:=by
  have qV:w.heap[pb]?=_:=h1;have pW:w.heap[pb]?=_:=hb;rw[qV]at pW;simpa using pW
 subst e;have hk:=hp.kept;have hc:(t2::r2).length+1<=c:=by
  obtain⟨a,c',he,hc⟩:=h2.shape;cases he;exact hc
 have S6:¬(c:Int)=1:=by rw[List.length_cons]at hc;omega
 have AL:=hp.aN;rw[if_neg S6]at AL;refine⟨⟨_,AL,?_⟩,h.lt,by rw[hp.size];exact h.le,GO,h.db.kept hk (λi hi hh=>by omega),h.er.kept hk (λi hi hh=>by omega),h.gl⟩;unfold Sl at h2 ⊢
 obtain⟨a,c',he,XW,cg⟩:=h2;cases he;refine⟨some ⟨b,o+3,none⟩,c-1,rfl,by omega,λi x hx=>?_⟩;obtain⟨b',o',cs,ha,hX,je,aP,hr⟩:=cg (i+1) x (by simpa using hx);cases ha;refine⟨b,o+3,cs,rfl,hX,je,λj u hu=>?_,hr⟩
 have:=aP j u hu;rw[show o+(i+1)*3+j=o+3+i*3+j by omega]at this
 exact hk.cell this (λhh=>hX (.inl hh))
theorem oX {e e':TypeId}{b o n c:Nat}{kk:IntKind}{L:VP}{other:Prop}(p):gm (some (.slice e)) (some (e',3)) (.slice (some ⟨b,o,none⟩) (n+1) c) (some (.int kk 1)) none none L other p=((1<=n+1/\n+1<=c)/\L (.slice (if (c:Int)=1 then some ⟨b,o,none⟩ else some ⟨b,o+3,none⟩) n (c-1))):=by
 simp only[gm,il,add_lit,Option.map_some];apply propext;constructor
 ·rintro⟨h1,h2⟩;refine⟨by omega,?_⟩;have e1:((n+1:Nat):Int).toNat-(1:Int).toNat=n:=by omega
  have e2:c-(1:Int).toNat=c-1:=by omega
  rw[e1,e2]at h2;exact h2
 rintro⟨h1,h2⟩;refine⟨by omega,?_⟩;have e1:((n+1:Nat):Int).toNat-(1:Int).toNat=n:=by omega
 have e2:c-(1:Int).toNat=c-1:=by omega
 rw[e1,e2];exact h2
def Thr (sz:Nat)(w:World)(c:List PanicEntry)(e pos:Nat):Prop:=∃b,sz<=b/\c=[{ v:=.iface 81 (.agg #[.iface 96 (.pointer (some ⟨b,0,none⟩))]),recovered:=false }]/\aO w b 97 [.int .i64 e,.int .i64 pos]
theorem Thr.mono {sz sz':Nat}{w:World}{c:List PanicEntry}{e pos:Nat}(h:Thr sz w c e pos)(hs:sz'<=sz):Thr sz' w c e pos:=by
 obtain⟨b,h1,h2,h3⟩:=h;exact⟨b,by omega,h2,h3⟩
def aIP {α:Type}(pb B:Nat)(w:World)(l:List Cae.Tok)(p:Pa α)(V:World->Value->α->Prop):VK:=λr w'=>∃x l',p l=.ok (x,l')/\V w' r x/\PS pb B w' l'/\Kept (·=pb) w w'
def II {α:Type}(pb:Nat)(w:World)(l:List Cae.Tok)(p:Pa α):List PanicEntry->World->Prop:=λc w'=>∃e pos,p l=.error (e,pos)/\Thr w.heap.size w' c e pos/\Kept (·=pb) w w'
def Pc {α:Type}(f:FuncId)(args:List Value)(pb B:Nat)(w:World)(l:List Cae.Tok)(p:Pa α)(V:World->Value->α->Prop):Prop:=Lu Tryz.prog f args w (aIP pb B w l p V) (II pb w l p)
theorem j2 (e:Nat){pb B:Nat}{w:World}{l:List Cae.Tok}(h:PS pb B w l):Lu Tryz.prog 33 [.pointer (some ⟨pb,0,none⟩),.int .i64 (e:Int)] w (λ_ _=>False) (λc w'=>Thr w.heap.size w' c e (Cae.hd l).pos/\Below w.heap.size w w'):=by
 obtain⟨t,r,rfl⟩:=h.tl.cons;obtain⟨b,o,c,hB,hc,dA,c0,c1,c2,c3⟩:=h.hd;have cb:w.cell? ⟨pb,0,none⟩=some (.slice (some ⟨b,o,none⟩) (r.length+1) c):=hB.cell rfl;refine dm Tryz.func33 rfl (by kernel_rfl) [] rfl ?_;push_cast -dsimp(maxSteps:=4000000) [Tryz.ntmps33];push_cast -dsimp[cb,c2];refine⟨by omega,ah ?_⟩;intro w' wI;have jK:aO w' w.heap.size 97 [.int .i64 e,.int .i64 t.pos]:=wI.aN;have me:=wI.below;push_cast -dsimp;refine aCX ?_;push_cast -dsimp;exact⟨⟨_,Nat.le_refl _,rfl,jK⟩,me⟩
theorem yg (s:List UInt8){pb B:Nat}{w:World}{l:List Cae.Tok}(h:PS pb B w l):bD Tryz.prog 56 [.pointer (some ⟨pb,0,none⟩),str s] w λr w'=>r=.bool (bI s l)/\w'=w:=by
 obtain⟨t,r,rfl⟩:=h.tl.cons;obtain⟨b,o,c,hB,hc,dA,c0,c1,c2,c3⟩:=h.hd;have cb:w.cell? ⟨pb,0,none⟩=some (.slice (some ⟨b,o,none⟩) (r.length+1) c):=hB.cell rfl;have hs:bI s (t::r)=(t.kind != 5 && t.text == s):=rfl;refine aE Tryz.func56 rfl (by kernel_rfl) [4] rfl ?_;push_cast -dsimp(maxSteps:=4000000) [Tryz.ntmps56];push_cast -dsimp[cb,c0,c1];refine⟨by omega,λh5=>⟨by omega,?_⟩,λh5=>?_⟩
 ·rw[hs];have Dz:t.kind≠5:=λe=>h5 (by omega);congr 1;by_cases he:t.text=s<;>simp[he,Dz]
 rw[hs];have Dz:t.kind=5:=by omega
 simp[Dz]
theorem bB {t:Cae.Tok}{r:List Cae.Tok}(h:t.kind≠5):bV (t::r)=.ok ((),r):=by simp[bV,h]
theorem q8 {s:List UInt8}{t:Cae.Tok}{r:List Cae.Tok}(h:bI s (t::r)=true):t.kind≠5:=by
 have:(t.kind != 5 && t.text == s)=true:=h;simp at this;exact this.1
def aIS (s:List UInt8)(pb B:Nat)(w:World)(l:List Cae.Tok):VK:=λr w'=>(bI s l=true/\r=.bool true/\∃t r',l=t::r'/\t.kind≠5/\PS pb B w' r'/\Kept (·=pb) w w'/\w'.heap.size=w.heap.size)\/(bI s l=false/\r=.bool false/\w'=w)
theorem gQ (s:List UInt8){pb B:Nat}{w:World}{l:List Cae.Tok}(h:PS pb B w l):bD Tryz.prog 60 [.pointer (some ⟨pb,0,none⟩),str s] w (aIS s pb B w l):=by
 obtain⟨t,r,rfl⟩:=h.tl.cons;obtain⟨b,o,c,hB,hc,dA,c0,c1,c2,c3⟩:=h.hd;have cb:w.cell? ⟨pb,0,none⟩=some (.slice (some ⟨b,o,none⟩) (r.length+1) c):=hB.cell rfl;refine aE Tryz.func60 rfl (by kernel_rfl) [4] rfl ?_;push_cast -dsimp(maxSteps:=4000000) [Tryz.ntmps60];refine aA (yg s h) ?_;rintro _ _ ⟨rfl,rfl⟩;cases hs:bI s (t::r) with
 | false =>
  push_cast -dsimp;exact .inr ⟨hs,rfl,rfl⟩
 | true =>
  have h5:=q8 hs;push_cast -dsimp[cb,oX];refine⟨by omega,?_⟩;refine aC hB (by simp) rfl ?_;intro w' wI;have oM:=h.pop hB h5 wI;have hk:=wI.kept;have hz:=wI.size;push_cast -dsimp;exact .inl ⟨hs,rfl,t,r,rfl,h5,oM,hk,hz⟩
theorem fj (s:List UInt8){pb B:Nat}{w:World}{l:List Cae.Tok}(h:PS pb B w l):Pc 57 [.pointer (some ⟨pb,0,none⟩),str s] pb B w l (a7 s) (λ_ r _=>r=.tuple #[]):=by
 refine dm Tryz.func57 rfl (by kernel_rfl) [] rfl ?_;push_cast -dsimp(maxSteps:=4000000) [Tryz.ntmps57];refine aA (gQ s h) ?_;rintro _ w1 hT;rcases hT with ⟨hs,rfl,t,r,rfl,h5,oM,hk,hz⟩|⟨hs,rfl,rfl⟩
 ·push_cast -dsimp;exact⟨(),r,by unfold a7 bE;rw[hs];exact bB h5,rfl,oM,hk⟩
 push_cast -dsimp;refine aK (j2 3 h) (λ_ _ h=>h.elim) ?_;rintro c w2 ⟨ht,hb⟩;push_cast -dsimp;exact⟨3,_,by unfold a7 bE;rw[hs];rfl,ht,Kept.aJ hb (λi h1 h2=>by omega)⟩
theorem lk (n:Int){pb B:Nat}{w:World}{l:List Cae.Tok}(h:PS pb B w l):Lu Tryz.prog 92 [.pointer (some ⟨pb,0,none⟩),.int .i64 n] w (λr w'=>n<=8/\r=.tuple #[]/\w'=w) (λc w'=>8<n/\Thr w.heap.size w' c 4 (Cae.hd l).pos/\Below w.heap.size w w'):=by
 refine dm Tryz.func92 rfl (by kernel_rfl) [] rfl ?_;push_cast -dsimp(maxSteps:=4000000) [Tryz.ntmps92];refine⟨λh8=>?_,λh8=>by omega⟩;refine aK (j2 4 h) (λ_ _ h=>h.elim) ?_;rintro c w2 ⟨ht,hb⟩;push_cast -dsimp;exact⟨h8,ht,hb⟩
def LH:List (List UInt8×Value):=[([99,108,97,115,115],.int .i64 1),([98,114,101,97,107],.int .i64 1),([107,101,101,112],.int .i64 1),([101,108,115,101],.int .i64 1)]
theorem aCo (s:List UInt8)(w:World):bD Tryz.prog 118 [str s] w λr w'=>r=.bool (rN s)/\Below w.heap.size w w':=by
 refine aE Tryz.func118 rfl (by kernel_rfl) [2] rfl ?_;push_cast -dsimp(maxSteps:=4000000) [Tryz.ntmps118];refine tK (key:=λl:List UInt8=>str l) ?_;intro w1 m1 b1 z1;push_cast -dsimp;refine fU (kt:=9) (et:=3) (k:=[99,108,97,115,115]) (by kernel_rfl) (gL (by kernel_rfl)) m1 rfl rfl ?_;intro w2 m2 k2 z2;push_cast -dsimp;refine fU (kt:=9) (et:=3) (k:=[98,114,101,97,107]) (by kernel_rfl) (gL (by kernel_rfl)) m2 rfl (by decide) ?_;intro w3 m3 k3 z3;push_cast -dsimp;refine fU (kt:=9) (et:=3) (k:=[107,101,101,112]) (by kernel_rfl) (gL (by kernel_rfl)) m3 rfl (by decide) ?_;intro w4 m4 k4 z4;push_cast -dsimp;refine fU (kt:=9) (et:=3) (k:=[101,108,115,101]) (by kernel_rfl) (gL (by kernel_rfl)) m4 rfl (by decide) ?_;intro w5 m5 k5 z5;have m6:mP (λl:List UInt8=>str l) w5 w.heap.size LH:=m5;have hb:Below w.heap.size w w5:=b1.trans ((((k2.trans k3 (λ_ _ h=>h)).trans k4 (λ_ _ h=>h)).trans k5 (λ_ _ h=>h)).below (by omega) (λi h=>by omega));push_cast -dsimp;refine wN (kt:=9) (et:=3) (z:=.int .i64 0) (c:=false) (k:=s) (by kernel_rfl) (gL (by kernel_rfl)) (by kernel_rfl) m6 ?_;cases hk:rN s with
 | true =>
  have ha:(eN s LH).getD (.int .i64 0)=.int .i64 1:=by
   simp only[rN,Bool.or_eq_true,beq_iff_eq]at hk;rcases hk with ((rfl|rfl)|rfl)|rfl<;>rfl
  rw[if_neg (by decide),ha];push_cast -dsimp;exact hb
 | false =>
  have ha:(eN s LH).getD (.int .i64 0)=.int .i64 0:=by
   simp only[rN,Bool.or_eq_false_iff,beq_eq_false_iff_ne]at hk;simp[LH,eN,hk.1.1.1,hk.1.1.2,hk.1.2,hk.2]
  rw[if_neg (by decide),ha];push_cast -dsimp;exact⟨rfl,hb⟩
theorem DV {pb B:Nat}{w:World}{l:List Cae.Tok}(h:PS pb B w l):bD Tryz.prog 90 [.pointer (some ⟨pb,0,none⟩)] w λr w'=>r=.bool (fI l)/\Below w.heap.size w w':=by
 obtain⟨t,r,rfl⟩:=h.tl.cons;obtain⟨b,o,c,hB,hc,dA,c0,c1,c2,c3⟩:=h.hd;have cb:w.cell? ⟨pb,0,none⟩=some (.slice (some ⟨b,o,none⟩) (r.length+1) c):=hB.cell rfl;have hs:fI (t::r)=(t.kind == 1 && !rN t.text):=rfl;refine aE Tryz.func90 rfl (by kernel_rfl) [2] rfl ?_;push_cast -dsimp(maxSteps:=4000000) [Tryz.ntmps90];push_cast -dsimp[cb,c0,c1];refine⟨by omega,λh5=>⟨by omega,?_⟩,λh5=>?_⟩
 ·refine aA (aCo t.text w) ?_;rintro _ w1 ⟨rfl,hb⟩;have Dz:t.kind=1:=by omega
  push_cast -dsimp;exact⟨by rw[hs,Dz];rfl,hb⟩
 have Dz:t.kind≠1:=λe=>h5 (by omega);exact⟨by rw[hs];simp[Dz],Below.refl _ _⟩
theorem Ty {pb B:Nat}{w:World}{l:List Cae.Tok}(h:PS pb B w l):Pc 58 [.pointer (some ⟨pb,0,none⟩)] pb B w l fP (λ_ r n=>r=str n):=by
 obtain⟨t,r,rfl⟩:=h.tl.cons;obtain⟨b,o,c,hB,hc,dA,c0,c1,c2,c3⟩:=h.hd;have cb:w.cell? ⟨pb,0,none⟩=some (.slice (some ⟨b,o,none⟩) (r.length+1) c):=hB.cell rfl;have hn:fI (t::r)=(t.kind == 1 && !rN t.text):=rfl;refine dm Tryz.func58 rfl (by kernel_rfl) [.tmp 2] rfl ?_;push_cast -dsimp(maxSteps:=4000000) [Tryz.ntmps58];push_cast -dsimp[cb,Nat.zero_mul,Nat.add_zero,c3];refine⟨by omega,?_⟩;refine aR (z:=[.int .i64 0,str [],.int .i64 0]) (by kernel_rfl) ?_;intro w1 au;have B1:=au.aN;have P1:=h.below au.below;have z1:=au.size;have b1:=au.below;push_cast -dsimp;refine aF (xt:=91) (n:=3) (by kernel_rfl) B1 rfl (by decide) (by simp;exact⟨rfl,rfl,rfl⟩) ?_;intro w2 bT;have B2:aO w2 w.heap.size 91 [.int .i64 t.kind,str t.text,.int .i64 t.pos]:=bT.aN;have P2:=P1.kept bT.kept (λi hi=>by have:=h.le;omega);have z2:=bT.size;have b2:=b1.trans (bT.kept.below (B:=w.heap.size) (by omega) (λi h=>by omega));push_cast -dsimp;refine aA (DV P2) ?_;rintro _ w3 ⟨rfl,b3⟩;have P3:=P2.below b3;have B3:=B2.below b3 (by omega);have vu:Below w.heap.size w w3:=b2.trans (b3.mono (by omega));have zO:Kept (·=pb) w w3:=Kept.aJ vu (λi h1 h2=>by omega);cases jR:fI (t::r) with
 | false =>
  push_cast -dsimp;refine aK (j2 3 P3) (λ_ _ h=>h.elim) ?_;rintro c w4 ⟨ht,hb⟩;push_cast -dsimp;have JU:=b3.size;exact⟨3,_,by unfold fP bE;rw[jR];rfl,ht.mono (by omega),zO.trans (Kept.aJ hb (X:=(·=pb)) (λi h1 h2=>by omega)) (λi _ h=>h)⟩
 | true =>
  have d1:w3.cell? ⟨w.heap.size,1,none⟩=some (str t.text):=B3.cell rfl;push_cast -dsimp[d1];refine⟨λSn=>?_,λaLl=>?_⟩
  ·refine aK (j2 4 P3) (λ_ _ h=>h.elim) ?_;rintro c w4 ⟨ht,hb⟩;push_cast -dsimp;have JU:=b3.size;have hl:vA (t::r)=true:=decide_eq_true (show 10<t.text.length by omega)
   exact⟨4,_,by unfold fP bE;rw[jR,hl];rfl,ht.mono (by omega),zO.trans (Kept.aJ hb (X:=(·=pb)) (λi h1 h2=>by omega)) (λi _ h=>h)⟩
  have hl:vA (t::r)=false:=decide_eq_false (show ¬10<t.text.length by omega)
  have h5:t.kind≠5:=by
   rw[hn]at jR;simp at jR;omega
  have Ip:=hB.kept (Kept.aJ vu (X:=λi=>w.heap.size<=i) (λi h1 h2=>h1)) (by have:=h.lt;have:=h.le;omega);have cb3:w3.cell? ⟨pb,0,none⟩=some (.slice (some ⟨b,o,none⟩) (r.length+1) c):=Ip.cell rfl;push_cast -dsimp[cb3,oX];refine⟨by omega,?_⟩;refine aC Ip (by simp) rfl ?_;intro w4 aj;have P4:=P3.pop Ip h5 aj;have B4:=B3.kept aj.kept (by have:=h.lt;have:=h.le;omega);have d4:w4.cell? ⟨w.heap.size,1,none⟩=some (str t.text):=B4.cell rfl;have k4:=zO.trans aj.kept (λi _ h=>h);push_cast -dsimp[d4];exact⟨t.text,r,by simp[fP,bE,jR,hl,Cae.pb,eA,bV,pr,h5,Cae.hd],rfl,P4,k4⟩
def eC (X:Nat->Prop)(w:World):Value->ax->Prop
 | v,.lit pos s=>∃b sv,v=.pointer (some ⟨b,0,none⟩)/\¬X b/\aO w b 126 [.int .i64 1,.int .i64 pos,sv,str [],.pointer none,.pointer none]/\Sl X 2 (En encR) w sv s/\Arg sv
 | v,.ref pos n=>∃b,v=.pointer (some ⟨b,0,none⟩)/\¬X b/\aO w b 126 [.int .i64 2,.int .i64 pos,.slice none 0 0,str n,.pointer none,.pointer none]
 | v,.not pos k=>∃b u,v=.pointer (some ⟨b,0,none⟩)/\¬X b/\aO w b 126 [.int .i64 6,.int .i64 pos,.slice none 0 0,str [],u,.pointer none]/\eC X w u k
 | v,.bin c pos k r=>∃b u x,v=.pointer (some ⟨b,0,none⟩)/\¬X b/\aO w b 126 [.int .i64 c,.int .i64 pos,.slice none 0 0,str [],u,x]/\eC X w u k/\eC X w x r
theorem eC.mono {X X' Y:Nat->Prop}{w w':World}(hk:Kept Y w w')(hY:∀i,Y i->X i)(hX:∀i,X' i->X i):∀{k:ax} {v:Value},eC X w v k->eC X' w' v k
 | .lit pos s,v,⟨b,sv,hv,hb,hB,hs,ha⟩=>⟨b,sv,hv,λhh=>hb (hX b hh),hB.kept hk (λhh=>hb (hY b hh)),(hs.kept hk hY).weaken hX,ha⟩
 | .ref pos n,v,⟨b,hv,hb,hB⟩=>⟨b,hv,λhh=>hb (hX b hh),hB.kept hk (λhh=>hb (hY b hh))⟩
 | .not pos k,v,⟨b,u,hv,hb,hB,h⟩=>⟨b,u,hv,λhh=>hb (hX b hh),hB.kept hk (λhh=>hb (hY b hh)),h.mono hk hY hX⟩
 | .bin c pos k r,v,⟨b,u,x,hv,hb,hB,h,h'⟩=>⟨b,u,x,hv,λhh=>hb (hX b hh),hB.kept hk (λhh=>hb (hY b hh)),h.mono hk hY hX,h'.mono hk hY hX⟩
theorem eC.below {X:Nat->Prop}{w w':World}{k:ax}{v:Value}(h:eC X w v k)(hb:Below w.heap.size w w'):eC X w' v k:=by
 induction k generalizing v with
 | lit pos s=>obtain⟨b,sv,hv,hx,hB,hs,ha⟩:=h;exact⟨b,sv,hv,hx,hB.below hb hB.lt,hs.below hb,ha⟩
 | ref pos n=>obtain⟨b,hv,hx,hB⟩:=h;exact⟨b,hv,hx,hB.below hb hB.lt⟩
 | not pos k ih=>obtain⟨b,u,hv,hx,hB,hs⟩:=h;exact⟨b,u,hv,hx,hB.below hb hB.lt,ih hs⟩
 | bin c pos k r ih TS=>obtain⟨b,u,x,hv,hx,hB,hs,Vz⟩:=h;exact⟨b,u,x,hv,hx,hB.below hb hB.lt,ih hs,TS Vz⟩
theorem Sl.top {α:Type}{X:Nat->Prop}{k:Nat}{R:List Value->α->Prop}{w:World}{v:Value}{l:List α}(hk:0<k)(h:Sl X k R w v l):Sl (λb=>X b\/w.heap.size<=b) k R w v l:=by
 unfold Sl at h ⊢
 obtain⟨a,c,rfl,hc,h⟩:=h;refine⟨a,c,rfl,hc,λi x hx=>?_⟩;obtain⟨b,o,cs,ha,hb,je,aP,hr⟩:=h i x hx;refine⟨b,o,cs,ha,λhh=>?_,je,aP,hr⟩;rcases hh with hh|hh
 ·exact hb hh
 obtain⟨u,hu⟩:∃u,cs[0]?=some u:=⟨cs[0]'(by omega),List.getElem?_eq_getElem (by omega)⟩
 have:=World.block_lt_of_cell? w _ (aP 0 u hu);simp at this;omega
theorem eC.top {X:Nat->Prop}{w:World}{k:ax}{v:Value}(h:eC X w v k):eC (λb=>X b\/w.heap.size<=b) w v k:=by
 induction k generalizing v with
 | lit pos s=>obtain⟨b,sv,hv,hx,hB,hs,ha⟩:=h;exact⟨b,sv,hv,λhh=>hh.elim hx (λhh=>by have:=hB.lt;omega),hB,Sl.top (by decide) hs,ha⟩
 | ref pos n=>obtain⟨b,hv,hx,hB⟩:=h;exact⟨b,hv,λhh=>hh.elim hx (λhh=>by have:=hB.lt;omega),hB⟩
 | not pos k ih=>obtain⟨b,u,hv,hx,hB,hs⟩:=h;exact⟨b,u,hv,λhh=>hh.elim hx (λhh=>by have:=hB.lt;omega),hB,ih hs⟩
 | bin c pos k r ih TS=>obtain⟨b,u,x,hv,hx,hB,hs,Vz⟩:=h;exact⟨b,u,x,hv,λhh=>hh.elim hx (λhh=>by have:=hB.lt;omega),hB,ih hs,TS Vz⟩
theorem eC.ptr {X:Nat->Prop}{w:World}{k:ax}{v:Value}(h:eC X w v k):∃b,v=.pointer (some ⟨b,0,none⟩)/\b<w.heap.size:=by
 cases k with
 | lit pos s=>obtain⟨b,sv,hv,hx,hB,hs⟩:=h;exact⟨b,hv,hB.lt⟩
 | ref pos n=>obtain⟨b,hv,hx,hB⟩:=h;exact⟨b,hv,hB.lt⟩
 | not pos k=>obtain⟨b,u,hv,hx,hB,hs⟩:=h;exact⟨b,hv,hB.lt⟩
 | bin c pos k r=>obtain⟨b,u,x,hv,hx,hB,hs,Vz⟩:=h;exact⟨b,hv,hB.lt⟩
def rP (w:World)(pb:Nat):Nat:=match w.cell? ⟨pb,0,none⟩ with
 | some (.slice _ n _)=>n
 | _=>0
theorem PS.len {pb B:Nat}{w:World}{l:List Cae.Tok}(h:PS pb B w l):rP w pb=l.length:=by
 obtain⟨v,h1,h2⟩:=h.st;obtain⟨a,c,rfl,_⟩:=h2.shape;unfold rP;rw[h1.cell (o:=0) rfl]
def QC (d:Nat):Prop:=∀(n:Int),0<=n->n+(d:Int)=9->∀(pb B:Nat) (w:World) (l:List Cae.Tok),PS pb B w l->Pc 91 [.pointer (some ⟨pb,0,none⟩),.int .i64 n] pb B w l (dI d) (λw' r k=>eC (·<w.heap.size) w' r k)
def ZS (d:Nat):Prop:=∀(n:Int),0<=n->n+(d:Int)=9->∀(pb B:Nat) (w:World) (l:List Cae.Tok),PS pb B w l->Pc 59 [.pointer (some ⟨pb,0,none⟩),.int .i64 n] pb B w l (iV d) (λw' r k=>eC (·<w.heap.size) w' r k)
theorem LI (d:Nat)(tB:QC d):ZS d:=by
 intro n oK hn pb B w l0 h0;obtain⟨t,r,rfl⟩:=h0.tl.cons;obtain⟨b,o,c,hB,hc,dA,c0,c1,c2,c3⟩:=h0.hd;have cb:w.cell? ⟨pb,0,none⟩=some (.slice (some ⟨b,o,none⟩) (r.length+1) c):=hB.cell rfl;have sR:∃l0,l0=t::r:=⟨_,rfl⟩;obtain⟨l0,sR⟩:=sR;rw[<-sR]at h0 ⊢
 have wF:Cae.hd l0=t:=by rw[sR];rfl
 refine dm Tryz.func59 rfl (by kernel_rfl) [.tmp 4] rfl ?_;push_cast -dsimp(maxSteps:=4000000) [Tryz.ntmps59];push_cast -dsimp[cb,c2];refine⟨by omega,?_⟩;refine aK (tB n oK hn pb B w l0 h0) ?_ ?_
 ·rintro v1 w1 ⟨k0,l1,e1,V1,P1,Ps⟩;have JR:iV d l0=cj (dI d) t.pos 1000 k0 l1:=by
   unfold iV lG;rw[aG (p:=eA) (x:=Cae.hd l0) (l1:=l0) rfl,aG e1,wF]
  push_cast -dsimp;refine aM [4,6,7,18,19,20,21,22,23,24,25,26,27,28,29,30,31,32,33,34,35] (λz w'=>∃(m:Nat) (k1:ax) (l1:List Cae.Tok),cj (dI d) t.pos m k1 l1=iV d l0/\l1.length<m/\eC (·<w.heap.size) w' (z 6) k1/\PS pb B w' l1/\Kept (·=pb) w w') (λz w'=>rP w' pb) ?_ ?_
  ·have bZ:l1.length<1000:=by have:=P1.tl.len;omega
   exact⟨1000,k0,l1,JR.symm,bZ,V1,P1,Ps⟩
  rintro z w' ⟨m,k1,l1,dB,hm,V1,pD,uJ⟩;obtain⟨kb,ig,vi⟩:=V1.ptr;rw[ig]at V1;obtain⟨t1,r1,gy⟩:=pD.tl.cons;push_cast -dsimp;refine aA (gQ [124] pD) ?_;rintro _ w2 hT;rcases hT with ⟨eY,rfl,t1',Py,Ep,lx,P2,kt,hz⟩|⟨eY,rfl,pg⟩
  ·obtain⟨rfl,rfl⟩:t1=t1'/\r1=Py:=by rw[gy]at Ep;exact List.cons.inj Ep
   rw[gy]at eY
   ·have pX:oB l1=.ok (3,r1):=by
     rw[gy];simp[oB,bE,eY,Cae.pb,bV,pr,lx]
    push_cast -dsimp;refine aK (tB n oK hn pb B w2 r1 P2) ?_ ?_
    ·rintro u w3 ⟨k2,l2,e2,V2,P3,k3⟩;obtain⟨ub,rfl,zM⟩:=V2.ptr;push_cast -dsimp[ig];refine ah ?_;intro w4 aj;have B4:aO w4 w3.heap.size 126 [.int .i64 (3:Nat),.int .i64 t.pos,.slice none 0 0,str [],.pointer (some ⟨kb,0,none⟩),.pointer (some ⟨ub,0,none⟩)]:=aj.aN;have P4:=P3.below aj.below;have z4:=aj.size;have J0:Kept (·=pb) w' w4:=(kt.trans k3 (λi _ h=>h)).trans (Kept.aJ aj.below (X:=(·=pb)) (λi h1 h2=>by omega)) (λi _ h=>h);have z14:=J0.size;have zw:=uJ.size;have hKa:eC (·<w.heap.size) w4 (.pointer (some ⟨kb,0,none⟩)) k1:=V1.mono J0 (λi h=>by have:=pD.lt;have:=h0.le;omega) (λ_ h=>h);have hKb:eC (·<w.heap.size) w4 (.pointer (some ⟨ub,0,none⟩)) k2:=V2.mono (Kept.aJ aj.below (X:=λi=>False) (λi h1 h2=>by omega)) (λ_ h=>h.elim) (λi h=>by have:=kt.size;omega);have GJ:cj (dI d) t.pos (m-1) (.bin 3 t.pos k1 k2) l2=iV d l0:=by
      rw[<-dB];obtain⟨m',rfl⟩:∃m',m=m'+1:=⟨m-1,by omega⟩;rw[cj,aG pX,if_neg (by decide),aG e2];rfl
     have p7:l2.length<=r1.length:=by
      obtain⟨pre,_,e,_⟩:=nE d _ _ _ e2;rw[e,List.length_append];omega
     have Hs:l1.length=r1.length+1:=by rw[gy,List.length_cons]
     have kN:=P4.len;have fS:=pD.len;push_cast -dsimp;refine⟨⟨m-1,_,l2,GJ,by omega,?_,P4,uJ.trans J0 (λi _ h=>h)⟩,by rw[kN,fS];omega⟩;exact⟨w3.heap.size,_,_,rfl,by have:=kt.size;have:=k3.size;omega,B4,hKa,hKb⟩
    rintro c w3 ⟨e,pos,he,ht,qq⟩;push_cast -dsimp;refine⟨e,pos,?_,ht.mono (by have:=kt.size;have:=uJ.size;omega),(uJ.trans kt (λi _ h=>h)).trans qq (λi _ h=>h)⟩;rw[<-dB];obtain⟨m',rfl⟩:∃m',m=m'+1:=⟨m-1,by omega⟩;rw[cj,aG pX,if_neg (by decide)];unfold Cae.pb;rw[he]
  obtain rfl:w'=w2:=pg.symm;rw[gy]at eY;push_cast -dsimp;refine aA (gQ [38] pD) ?_;rintro _ w2 hT;rcases hT with ⟨iP,rfl,t1',Py,Ep,lx,P2,kt,hz⟩|⟨iP,rfl,pg⟩
  ·obtain⟨rfl,rfl⟩:t1=t1'/\r1=Py:=by rw[gy]at Ep;exact List.cons.inj Ep
   rw[gy]at iP
   ·have pX:oB l1=.ok (4,r1):=by
     rw[gy];simp[oB,bE,eY,iP,Cae.pb,bV,pr,lx]
    push_cast -dsimp;refine aK (tB n oK hn pb B w2 r1 P2) ?_ ?_
    ·rintro u w3 ⟨k2,l2,e2,V2,P3,k3⟩;obtain⟨ub,rfl,zM⟩:=V2.ptr;push_cast -dsimp[ig];refine ah ?_;intro w4 aj;have B4:aO w4 w3.heap.size 126 [.int .i64 (4:Nat),.int .i64 t.pos,.slice none 0 0,str [],.pointer (some ⟨kb,0,none⟩),.pointer (some ⟨ub,0,none⟩)]:=aj.aN;have P4:=P3.below aj.below;have z4:=aj.size;have J0:Kept (·=pb) w' w4:=(kt.trans k3 (λi _ h=>h)).trans (Kept.aJ aj.below (X:=(·=pb)) (λi h1 h2=>by omega)) (λi _ h=>h);have z14:=J0.size;have zw:=uJ.size;have hKa:eC (·<w.heap.size) w4 (.pointer (some ⟨kb,0,none⟩)) k1:=V1.mono J0 (λi h=>by have:=pD.lt;have:=h0.le;omega) (λ_ h=>h);have hKb:eC (·<w.heap.size) w4 (.pointer (some ⟨ub,0,none⟩)) k2:=V2.mono (Kept.aJ aj.below (X:=λi=>False) (λi h1 h2=>by omega)) (λ_ h=>h.elim) (λi h=>by have:=kt.size;omega);have GJ:cj (dI d) t.pos (m-1) (.bin 4 t.pos k1 k2) l2=iV d l0:=by
      rw[<-dB];obtain⟨m',rfl⟩:∃m',m=m'+1:=⟨m-1,by omega⟩;rw[cj,aG pX,if_neg (by decide),aG e2];rfl
     have p7:l2.length<=r1.length:=by
      obtain⟨pre,_,e,_⟩:=nE d _ _ _ e2;rw[e,List.length_append];omega
     have Hs:l1.length=r1.length+1:=by rw[gy,List.length_cons]
     have kN:=P4.len;have fS:=pD.len;push_cast -dsimp;refine⟨⟨m-1,_,l2,GJ,by omega,?_,P4,uJ.trans J0 (λi _ h=>h)⟩,by rw[kN,fS];omega⟩;exact⟨w3.heap.size,_,_,rfl,by have:=kt.size;have:=k3.size;omega,B4,hKa,hKb⟩
    rintro c w3 ⟨e,pos,he,ht,qq⟩;push_cast -dsimp;refine⟨e,pos,?_,ht.mono (by have:=kt.size;have:=uJ.size;omega),(uJ.trans kt (λi _ h=>h)).trans qq (λi _ h=>h)⟩;rw[<-dB];obtain⟨m',rfl⟩:∃m',m=m'+1:=⟨m-1,by omega⟩;rw[cj,aG pX,if_neg (by decide)];unfold Cae.pb;rw[he]
  obtain rfl:w'=w2:=pg.symm;rw[gy]at iP;push_cast -dsimp;refine aA (gQ [45] pD) ?_;rintro _ w2 hT;rcases hT with ⟨nZ,rfl,t1',Py,Ep,lx,P2,kt,hz⟩|⟨nZ,rfl,pg⟩
  ·obtain⟨rfl,rfl⟩:t1=t1'/\r1=Py:=by rw[gy]at Ep;exact List.cons.inj Ep
   rw[gy]at nZ
   ·have pX:oB l1=.ok (5,r1):=by
     rw[gy];simp[oB,bE,eY,iP,nZ,Cae.pb,bV,pr,lx]
    push_cast -dsimp;refine aK (tB n oK hn pb B w2 r1 P2) ?_ ?_
    ·rintro u w3 ⟨k2,l2,e2,V2,P3,k3⟩;obtain⟨ub,rfl,zM⟩:=V2.ptr;push_cast -dsimp[ig];refine ah ?_;intro w4 aj;have B4:aO w4 w3.heap.size 126 [.int .i64 (5:Nat),.int .i64 t.pos,.slice none 0 0,str [],.pointer (some ⟨kb,0,none⟩),.pointer (some ⟨ub,0,none⟩)]:=aj.aN;have P4:=P3.below aj.below;have z4:=aj.size;have J0:Kept (·=pb) w' w4:=(kt.trans k3 (λi _ h=>h)).trans (Kept.aJ aj.below (X:=(·=pb)) (λi h1 h2=>by omega)) (λi _ h=>h);have z14:=J0.size;have zw:=uJ.size;have hKa:eC (·<w.heap.size) w4 (.pointer (some ⟨kb,0,none⟩)) k1:=V1.mono J0 (λi h=>by have:=pD.lt;have:=h0.le;omega) (λ_ h=>h);have hKb:eC (·<w.heap.size) w4 (.pointer (some ⟨ub,0,none⟩)) k2:=V2.mono (Kept.aJ aj.below (X:=λi=>False) (λi h1 h2=>by omega)) (λ_ h=>h.elim) (λi h=>by have:=kt.size;omega);have GJ:cj (dI d) t.pos (m-1) (.bin 5 t.pos k1 k2) l2=iV d l0:=by
      rw[<-dB];obtain⟨m',rfl⟩:∃m',m=m'+1:=⟨m-1,by omega⟩;rw[cj,aG pX,if_neg (by decide),aG e2];rfl
     have p7:l2.length<=r1.length:=by
      obtain⟨pre,_,e,_⟩:=nE d _ _ _ e2;rw[e,List.length_append];omega
     have Hs:l1.length=r1.length+1:=by rw[gy,List.length_cons]
     have kN:=P4.len;have fS:=pD.len;push_cast -dsimp;refine⟨⟨m-1,_,l2,GJ,by omega,?_,P4,uJ.trans J0 (λi _ h=>h)⟩,by rw[kN,fS];omega⟩;exact⟨w3.heap.size,_,_,rfl,by have:=kt.size;have:=k3.size;omega,B4,hKa,hKb⟩
    rintro c w3 ⟨e,pos,he,ht,qq⟩;push_cast -dsimp;refine⟨e,pos,?_,ht.mono (by have:=kt.size;have:=uJ.size;omega),(uJ.trans kt (λi _ h=>h)).trans qq (λi _ h=>h)⟩;rw[<-dB];obtain⟨m',rfl⟩:∃m',m=m'+1:=⟨m-1,by omega⟩;rw[cj,aG pX,if_neg (by decide)];unfold Cae.pb;rw[he]
  obtain rfl:w'=w2:=pg.symm;rw[gy]at nZ;push_cast -dsimp[ig];refine⟨k1,l1,?_,V1,pD,uJ⟩;rw[<-dB];obtain⟨m',rfl⟩:∃m',m=m'+1:=⟨m-1,by omega⟩;have pX:oB l1=.ok (0,l1):=by
   rw[gy];simp[oB,bE,eY,iP,nZ,pr]
  rw[cj,aG pX,if_pos rfl];rfl
 rintro c w3 ⟨e,pos,he,ht,qq⟩;push_cast -dsimp;refine⟨e,pos,?_,ht,qq⟩;unfold iV lG;rw[aG (p:=eA) (x:=Cae.hd l0) (l1:=l0) rfl];unfold Cae.pb;rw[he]
theorem UE:QC 0:=by
 intro n oK hn pb B w l h;refine dm Tryz.func91 rfl (by kernel_rfl) [.tmp 4] rfl ?_;push_cast -dsimp(maxSteps:=4000000) [Tryz.ntmps91];refine aK (lk n h) ?_ ?_
 ·rintro _ _ ⟨h8,rfl,rfl⟩;omega
 rintro c w' ⟨h8,ht,hb⟩;push_cast -dsimp;exact⟨4,_,rfl,ht,Kept.aJ hb (λi h1 h2=>by omega)⟩
theorem UD (d:Nat)(ih:QC d):QC (d+1):=by
 have ihk:=LI d ih;intro n oK hn pb B w l0 h0;obtain⟨t,r,sR⟩:=h0.tl.cons;have wF:Cae.hd l0=t:=by rw[sR];rfl
 have wC:=h0;rw[sR]at wC;obtain⟨b,o,c,hB,hc,dA,c0,c1,c2,c3⟩:=wC.hd;have cb:w.cell? ⟨pb,0,none⟩=some (.slice (some ⟨b,o,none⟩) (r.length+1) c):=hB.cell rfl;have hle:=h0.le;have bZ:=h0.lt;refine dm Tryz.func91 rfl (by kernel_rfl) [.tmp 4] rfl ?_;push_cast -dsimp(maxSteps:=4000000) [Tryz.ntmps91];refine aK (lk n h0) ?_ (λc w' hh=>by have:=hh.1;omega);rintro _ w0 ⟨h8,rfl,GQ⟩;obtain rfl:w=w0:=GQ.symm;push_cast -dsimp[cb,c2];refine⟨by omega,ah ?_⟩;intro w1 au;have B1:aO w1 w.heap.size 126 [.int .i64 0,.int .i64 t.pos,.slice none 0 0,str [],.pointer none,.pointer none]:=au.aN;have P1:=h0.below au.below;have P1':=wC.below au.below;have z1:=au.size;have k1:Kept (·=pb) w w1:=Kept.aJ au.below (λi h1 h2=>by omega);obtain⟨b',o',c',Cq,XW,aQC,MI,Z4,c2',c3'⟩:=P1'.hd;have cb':w1.cell? ⟨pb,0,none⟩=some (.slice (some ⟨b',o',none⟩) (r.length+1) c'):=Cq.cell rfl;have mU:dI (d+1) l0=bE (isKind 3) yC (bE (bI [126]) (Cae.pb eA λt=>Cae.pb bV λ_=>Cae.pb (dI d) λk=>pr (.not t.pos k))
  (bE (bI [40]) (Cae.pb bV λ_=>Cae.pb (lG (dI d)) λk=>Cae.pb (a7 [41]) λ_=>pr k)
   (Cae.pb eA λt=>Cae.pb fP λn=>pr (.ref t.pos n)))) l0:=rfl
 have X2:∀{β:Type} (q:Cae.Tok->Pa β),Cae.pb eA q l0=q t l0:=λq=>by rw[aG (p:=eA) (x:=Cae.hd l0) (l1:=l0) rfl,wF]
 push_cast -dsimp[cb',MI];refine⟨by omega,λh3=>?_,λh3=>?_⟩
 ·have qq:isKind 3 l0=true:=by
   have:t.kind=3:=by omega
   simp[isKind,wF,this]
  have h5:t.kind≠5:=by omega
  push_cast -dsimp[cb',Z4];refine⟨by omega,?_⟩;refine aA (YY t.text (wC.tl.txt t (by simp)) w1 P1.db P1.er) ?_;rintro rv w2 ⟨hR,b2⟩;have P2:=P1.below b2;have P2':=P1'.below b2;have B2:=B1.below b2 (by omega);have k2:Kept (·=pb) w w2:=k1.trans (Kept.aJ b2 (X:=(·=pb)) (λi h1 h2=>by omega)) (λi _ h=>h);have z2:=b2.size;rcases hR with ⟨v,s,rfl,ho,hpr⟩|⟨gC,rfl⟩
  ·have vj:=Lf hpr;have hs0:=ho.sl;have ha0:Arg v:=ho.dH;obtain⟨va,vc,rfl,_⟩:=hs0.shape;push_cast -dsimp;refine aC B2 (by simp) rfl ?_;intro w3 bO;have B3:aO w3 w.heap.size 126 [.int .i64 1,.int .i64 t.pos,.slice none 0 0,str [],.pointer none,.pointer none]:=bO.aN;push_cast -dsimp;refine aC B3 (by simp) rfl ?_;intro w4 aj;have B4:aO w4 w.heap.size 126 [.int .i64 1,.int .i64 t.pos,.slice va s.length vc,str [],.pointer none,.pointer none]:=aj.aN;have k34:Kept (·=w.heap.size) w2 w4:=bO.kept.trans aj.kept (λi _ h=>h);have K8:=P2'.kept k34 (λi h=>by omega);have z4:=k34.size;have k4:Kept (·=pb) w w4:=k2.trans k34 (λi h1 h2=>by omega);obtain⟨b4,o4,c4,qW,hc4,aKX,_,_,_,_⟩:=K8.hd;have Qy:w4.cell? ⟨pb,0,none⟩=some (.slice (some ⟨b4,o4,none⟩) (r.length+1) c4):=qW.cell rfl;push_cast -dsimp[Qy,oX];refine⟨by omega,?_⟩;refine aC qW (by simp) rfl ?_;intro w5 bW;have P5:=K8.pop qW h5 bW;have B5:=B4.kept bW.kept (by omega);have k5:=k4.trans bW.kept (λi _ h=>h);have s5:Sl (·<w.heap.size) 2 (En encR) w5 (.slice va s.length vc) s:=((hs0.kept k34 (λi h=>by omega)).kept bW.kept (λi h=>by omega)).weaken (λi h=>by omega);push_cast -dsimp;refine⟨.lit t.pos s,r,?_,⟨_,_,rfl,by omega,B5,s5,ha0⟩,P5,k5⟩;rw[mU];unfold bE;rw[qq,if_pos rfl];unfold yC;rw[X2,vj,sR];simp[Cae.pb,bV,h5,pr]
  have vj:=Ld gC;push_cast -dsimp;refine aK (j2 3 P2) (λ_ _ h=>h.elim) ?_;rintro c w3 ⟨ht,hb⟩;push_cast -dsimp;refine⟨3,_,?_,ht.mono (by omega),k2.trans (Kept.aJ hb (X:=(·=pb)) (λi h1 h2=>by omega)) (λi _ h=>h)⟩;rw[mU];unfold bE;rw[qq,if_pos rfl];unfold yC;rw[X2,vj];rfl
 have qq:isKind 3 l0=false:=by
  have:t.kind≠3:=λe=>h3 (by omega);simp[isKind,wF,this]
 refine aA (gQ [126] P1) ?_;rintro _ w2 hT;rcases hT with ⟨eY,rfl,t1,r1,gy,lx,P2,kt,hz⟩|⟨eY,rfl,pg⟩
 ·obtain⟨rfl,rfl⟩:t=t1/\r=r1:=by rw[sR]at gy;exact List.cons.inj gy
  have B2:=B1.kept kt (by omega);have ew:bV l0=.ok ((),r):=by rw[sR];exact bB lx
  have iM:dI (d+1) l0=Cae.pb (dI d) (λk=>pr (.not t.pos k)) r:=by
   rw[mU];unfold bE;rw[qq,eY,if_neg (by decide),if_pos rfl,X2,aG ew]
  push_cast -dsimp;refine⟨⟨by omega,by omega⟩,?_⟩;refine aK (ih (n+1) (by omega) (by omega) pb B w2 r P2) ?_ ?_
  ·rintro u w3 ⟨k,l3,e3,V3,P3,k3⟩;obtain⟨ub,rfl,zM⟩:=V3.ptr;have B3:=B2.kept k3 (by omega);push_cast -dsimp;refine aC B3 (by simp) rfl ?_;intro w4 aj;have B4:aO w4 w.heap.size 126 [.int .i64 6,.int .i64 t.pos,.slice none 0 0,str [],.pointer none,.pointer none]:=aj.aN;push_cast -dsimp;refine aC B4 (by simp) rfl ?_;intro w5 bW;have B5:aO w5 w.heap.size 126 [.int .i64 6,.int .i64 t.pos,.slice none 0 0,str [],.pointer (some ⟨ub,0,none⟩),.pointer none]:=bW.aN;have k35:Kept (·=w.heap.size) w3 w5:=aj.kept.trans bW.kept (λi _ h=>h);have P5:=P3.kept k35 (λi h=>by omega);have z3:=k3.size;have k5:Kept (·=pb) w w5:=((k1.trans kt (λi _ h=>h)).trans k3 (λi _ h=>h)).trans k35 (λi h1 h2=>by omega);push_cast -dsimp;refine⟨.not t.pos k,l3,?_,⟨_,_,rfl,by omega,B5,V3.mono k35 (λi h=>by omega) (λi h=>by omega)⟩,P5,k5⟩;rw[iM,aG e3];rfl
  rintro c w3 ⟨e,pos,he,ht,hk⟩;push_cast -dsimp;refine⟨e,pos,?_,ht.mono (by omega),(k1.trans kt (λi _ h=>h)).trans hk (λi _ h=>h)⟩;rw[iM];unfold Cae.pb;rw[he]
 obtain rfl:w1=w2:=pg.symm;push_cast -dsimp;refine aA (gQ [40] P1) ?_;rintro _ w2 hT;rcases hT with ⟨iP,rfl,t1,r1,gy,lx,P2,kt,hz⟩|⟨iP,rfl,pg⟩
 ·obtain⟨rfl,rfl⟩:t=t1/\r=r1:=by rw[sR]at gy;exact List.cons.inj gy
  have ew:bV l0=.ok ((),r):=by rw[sR];exact bB lx
  have iM:dI (d+1) l0=Cae.pb (iV d) (λk=>Cae.pb (a7 [41]) λ_=>pr k) r:=by
   rw[mU];unfold bE;rw[qq,eY,iP,if_neg (by decide),if_neg (by decide),if_pos rfl,aG ew];rfl
  push_cast -dsimp;refine⟨⟨by omega,by omega⟩,?_⟩;refine aK (ihk (n+1) (by omega) (by omega) pb B w2 r P2) ?_ ?_
  ·rintro u w3 ⟨k,l3,e3,V3,P3,k3⟩;push_cast -dsimp;refine aK (fj [41] P3) ?_ ?_
   ·rintro _ w4 ⟨_,l4,e4,rfl,P4,k4⟩;push_cast -dsimp;have z3:=k3.size;refine⟨k,l4,?_,V3.mono k4 (λi h=>by omega) (λi h=>by omega),P4,((k1.trans kt (λi _ h=>h)).trans k3 (λi _ h=>h)).trans k4 (λi _ h=>h)⟩;rw[iM,aG e3,aG e4];rfl
   rintro c w4 ⟨e,pos,he,ht,hk⟩;push_cast -dsimp;have z3:=k3.size;refine⟨e,pos,?_,ht.mono (by omega),((k1.trans kt (λi _ h=>h)).trans k3 (λi _ h=>h)).trans hk (λi _ h=>h)⟩;rw[iM,aG e3];unfold Cae.pb;rw[he]
  rintro c w3 ⟨e,pos,he,ht,hk⟩;push_cast -dsimp;refine⟨e,pos,?_,ht.mono (by omega),(k1.trans kt (λi _ h=>h)).trans hk (λi _ h=>h)⟩;rw[iM];unfold Cae.pb;rw[he]
 obtain rfl:w1=w2:=pg.symm;have iM:dI (d+1) l0=Cae.pb fP (λn=>pr (.ref t.pos n)) l0:=by
  rw[mU];unfold bE;rw[qq,eY,iP,if_neg (by decide),if_neg (by decide),if_neg (by decide),X2]
 push_cast -dsimp;refine aK (Ty P1) ?_ ?_
 ·rintro _ w3 ⟨nm,l3,e3,rfl,P3,k3⟩;have B3:=B1.kept k3 (by omega);push_cast -dsimp;refine aC B3 (by simp) rfl ?_;intro w4 aj;have B4:aO w4 w.heap.size 126 [.int .i64 2,.int .i64 t.pos,.slice none 0 0,str [],.pointer none,.pointer none]:=aj.aN;push_cast -dsimp;refine aC B4 (by simp) rfl ?_;intro w5 bW;have B5:aO w5 w.heap.size 126 [.int .i64 2,.int .i64 t.pos,.slice none 0 0,str nm,.pointer none,.pointer none]:=bW.aN;have k35:Kept (·=w.heap.size) w3 w5:=aj.kept.trans bW.kept (λi _ h=>h);have P5:=P3.kept k35 (λi h=>by omega);have z3:=k3.size;have k5:Kept (·=pb) w w5:=(k1.trans k3 (λi _ h=>h)).trans k35 (λi h1 h2=>by omega);push_cast -dsimp;refine⟨.ref t.pos nm,l3,?_,⟨_,rfl,by omega,B5⟩,P5,k5⟩;rw[iM,aG e3];rfl
 rintro c w3 ⟨e,pos,he,ht,hk⟩;push_cast -dsimp;refine⟨e,pos,?_,ht.mono (by omega),k1.trans hk (λi _ h=>h)⟩;rw[iM];unfold Cae.pb;rw[he]
theorem LU:∀d,QC d
 | 0=>UE
 | d+1=>UD d (LU d)
theorem aCq (d:Nat):ZS d:=LI d (LU d)
end Go.Proofs.YtodeeahdhnjpkaaGreatDoor
end
section
namespace Cae
theorem XE (l:List UInt8):∀a:Nat,a<=l.foldl (λm b=>10*m+(b.toNat-48)) a:=by
 induction l with
 | nil=>exact λa=>Nat.le_refl _
 | cons b l ih=>exact λa=>Nat.le_trans (show a<=10*a+(b.toNat-48) by omega) (ih _)
theorem LW:∀(l:List UInt8) (a:Nat),(∀c∈l,bu c=true)->Go.Lib.parseUint10 a l=.ok (l.foldl (λm b=>10*m+(b.toNat-48)) a)\/(Go.Lib.parseUint10 a l=.range/\12<l.foldl (λm b=>10*m+(b.toNat-48)) a)
 | [],a,_=>.inl rfl
 | c::r,a,h=>by
  have hc:=h c (by simp);simp only[bu,Bool.and_eq_true,decide_eq_true_eq]at hc;have h1:=XE r (10*a+(c.toNat-48));have e:a*10+(c.toNat-48)=10*a+(c.toNat-48):=by omega
  rw[Go.Lib.parseUint10,if_pos hc,List.foldl_cons,e];split
  ·exact .inr ⟨rfl,by omega⟩
  split
  ·exact .inr ⟨rfl,by omega⟩
  exact LW r _ (λx hx=>h x (by simp[hx]))
theorem Q0 {l:List UInt8}(dA:l≠[])(h:∀c∈l,bu c=true):Go.Lib.atoiAll l=.ok (r6 l:Int)\/(Go.Lib.atoiAll l=.range/\12<r6 l):=by
 obtain⟨c,r,rfl⟩:∃c r,l=c::r:=by cases l with
  | nil=>exact absurd rfl dA
  | cons c r=>exact⟨c,r,rfl⟩
 have hc:=h c (by simp);simp only[bu,Bool.and_eq_true,decide_eq_true_eq]at hc;rw[Go.Lib.atoiAll_plain c r (by omega) (by omega)];have hm:Go.Lib.parseMag (c::r)=Go.Lib.parseUint10 0 (c::r):=by unfold Go.Lib.parseMag;rw[if_neg (by simp)]
 rw[hm];rcases LW (c::r) 0 h with h1|⟨h1,h2⟩
 ·rw[h1];unfold Go.Lib.signless;have e:(c::r).foldl (λm b=>10*m+(b.toNat-48)) 0=r6 (c::r):=rfl;rw[e];dsimp only;split
  ·exact .inr ⟨rfl,by omega⟩
  exact .inl rfl
 rw[h1];exact .inr ⟨rfl,h2⟩
end Cae
namespace Go.Proofs.YtodeeahdhnjpkaaGreatDoor
open Go.Vc Go.Proofs Go.RowKit Cae
attribute [local irreducible] cw ag aq a8 runK bD Sl Vc.Own vc aW cN ai
def ME:Go.Shelf.Ren:=⟨λ| 172=>117|244=>159|245=>157|247=>156|279=>186|280=>187|281=>188|282=>189|287=>185|316=>215|171=>217|205=>216|321=>213|322=>214|243=>232|246=>190|283=>218|284=>219|285=>220|286=>221|129=>143|317=>233|318=>234|319=>235|320=>236|337=>240|338=>241|n=>n,λ| 9=>9|3=>3|75=>32|76=>172|4=>4|5=>5|167=>259|37=>142|0=>0|85=>168|2=>2|168=>262|53=>208|175=>260|46=>109|210=>290|127=>306|145=>309|143=>307|21=>21|171=>292|173=>294|212=>311|51=>206|20=>20|213=>312|232=>316|233=>317|80=>76|n=>n,λ| 15=>6|16=>7|17=>10|18=>11|19=>12|n=>n⟩
theorem ZX:Go.Proofs.LaysC.n172 Tryz.prog ME:={
 mixed:=by kernel_rfl
 f129:=Tryz.func143.trans (congrArg some (by kernel_rfl))
 f171:=Tryz.func217.trans (congrArg some (by kernel_rfl))
 f172:=Tryz.func117.trans (congrArg some (by kernel_rfl))
 f205:=Tryz.func216.trans (congrArg some (by kernel_rfl))
 f243:=Tryz.func232.trans (congrArg some (by kernel_rfl))
 f244:=Tryz.func159.trans (congrArg some (by kernel_rfl))
 f245:=Tryz.func157.trans (congrArg some (by kernel_rfl))
 f246:=Tryz.func190.trans (congrArg some (by kernel_rfl))
 f247:=Tryz.func156.trans (congrArg some (by kernel_rfl))
 f279:=Tryz.func186.trans (congrArg some (by kernel_rfl))
 f280:=Tryz.func187.trans (congrArg some (by kernel_rfl))
 f281:=Tryz.func188.trans (congrArg some (by kernel_rfl))
 f282:=Tryz.func189.trans (congrArg some (by kernel_rfl))
 f283:=Tryz.func218.trans (congrArg some (by kernel_rfl))
 f284:=Tryz.func219.trans (congrArg some (by kernel_rfl))
 f285:=Tryz.func220.trans (congrArg some (by kernel_rfl))
 f286:=Tryz.func221.trans (congrArg some (by kernel_rfl))
 f287:=Tryz.func185.trans (congrArg some (by kernel_rfl))
 f316:=Tryz.func215.trans (congrArg some (by kernel_rfl))
 f317:=Tryz.func233.trans (congrArg some (by kernel_rfl))
 f318:=Tryz.func234.trans (congrArg some (by kernel_rfl))
 f319:=Tryz.func235.trans (congrArg some (by kernel_rfl))
 f320:=Tryz.func236.trans (congrArg some (by kernel_rfl))
 f321:=Tryz.func213.trans (congrArg some (by kernel_rfl))
 f322:=Tryz.func214.trans (congrArg some (by kernel_rfl))
 f337:=Tryz.func240.trans (congrArg some (by kernel_rfl))
 f338:=Tryz.func241.trans (congrArg some (by kernel_rfl))
 t0:=Tryz.underlying0
 a0:=Tryz.isAgg0
 z0:=Tryz.sizeOf0
 v0:=Tryz.zeroValue0
 t2:=Tryz.underlying2
 a2:=Tryz.isAgg2
 z2:=Tryz.sizeOf2
 v2:=Tryz.zeroValue2
 t3:=Tryz.underlying3
 a3:=Tryz.isAgg3
 z3:=Tryz.sizeOf3
 v3:=Tryz.zeroValue3
 t4:=Tryz.underlying4
 a4:=Tryz.isAgg4
 z4:=Tryz.sizeOf4
 v4:=Tryz.zeroValue4
 t5:=Tryz.underlying5
 a5:=Tryz.isAgg5
 z5:=Tryz.sizeOf5
 v5:=Tryz.zeroValue5
 t9:=Tryz.underlying9
 a9:=Tryz.isAgg9
 z9:=Tryz.sizeOf9
 v9:=Tryz.zeroValue9
 t20:=Tryz.underlying20
 a20:=Tryz.isAgg20
 z20:=Tryz.sizeOf20
 v20:=Tryz.zeroValue20
 t21:=Tryz.underlying21
 a21:=Tryz.isAgg21
 z21:=Tryz.sizeOf21
 v21:=Tryz.zeroValue21
 t37:=Tryz.underlying142
 a37:=Tryz.isAgg142
 z37:=Tryz.sizeOf142
 v37:=Tryz.zeroValue142
 t46:=Tryz.underlying109
 a46:=Tryz.isAgg109
 z46:=Tryz.sizeOf109
 v46:=Tryz.zeroValue109
 t51:=Tryz.underlying206
 a51:=Tryz.isAgg206
 z51:=Tryz.sizeOf206
 v51:=Tryz.zeroValue206
 t53:=Tryz.underlying208
 a53:=Tryz.isAgg208
 z53:=Tryz.sizeOf208
 v53:=Tryz.zeroValue208
 t75:=Tryz.underlying32
 a75:=Tryz.isAgg32
 z75:=Tryz.sizeOf32
 v75:=Tryz.zeroValue32
 t76:=Tryz.underlying172
 a76:=Tryz.isAgg172
 z76:=Tryz.sizeOf172
 v76:=Tryz.zeroValue172
 t85:=Tryz.underlying168
 a85:=Tryz.isAgg168
 z85:=Tryz.sizeOf168
 v85:=Tryz.zeroValue168
 t127:=Tryz.underlying306
 a127:=Tryz.isAgg306
 z127:=Tryz.sizeOf306
 v127:=Tryz.zeroValue306
 t143:=Tryz.underlying307
 a143:=Tryz.isAgg307
 z143:=Tryz.sizeOf307
 v143:=Tryz.zeroValue307
 t145:=Tryz.underlying309
 a145:=Tryz.isAgg309
 z145:=Tryz.sizeOf309
 v145:=Tryz.zeroValue309
 t167:=Tryz.underlying259
 a167:=Tryz.isAgg259
 z167:=Tryz.sizeOf259
 v167:=Tryz.zeroValue259
 t168:=Tryz.underlying262
 a168:=Tryz.isAgg262
 z168:=Tryz.sizeOf262
 v168:=Tryz.zeroValue262
 t171:=Tryz.underlying292
 a171:=Tryz.isAgg292
 z171:=Tryz.sizeOf292
 v171:=Tryz.zeroValue292
 t173:=Tryz.underlying294
 a173:=Tryz.isAgg294
 z173:=Tryz.sizeOf294
 v173:=Tryz.zeroValue294
 t175:=Tryz.underlying260
 a175:=Tryz.isAgg260
 z175:=Tryz.sizeOf260
 v175:=Tryz.zeroValue260
 t210:=Tryz.underlying290
 a210:=Tryz.isAgg290
 z210:=Tryz.sizeOf290
 v210:=Tryz.zeroValue290
 t212:=Tryz.underlying311
 a212:=Tryz.isAgg311
 z212:=Tryz.sizeOf311
 v212:=Tryz.zeroValue311
 t213:=Tryz.underlying312
 a213:=Tryz.isAgg312
 z213:=Tryz.sizeOf312
 t232:=Tryz.underlying316
 a232:=Tryz.isAgg316
 z232:=Tryz.sizeOf316
 v232:=Tryz.zeroValue316
 t233:=Tryz.underlying317
 a233:=Tryz.isAgg317
 z233:=Tryz.sizeOf317
 v233:=Tryz.zeroValue317
 g15:=by kernel_rfl
 g16:=by kernel_rfl
 g17:=by kernel_rfl
 g18:=by kernel_rfl
 g19:=by kernel_rfl
 t80:=Tryz.underlying76
 a80:=Tryz.isAgg76
 z80:=Tryz.sizeOf76
 v80:=Tryz.zeroValue76
 i0:=by kernel_rfl
 i2:=by kernel_rfl
 i3:=by kernel_rfl
 i4:=by kernel_rfl
 i5:=by kernel_rfl
 i9:=by kernel_rfl
 i20:=by kernel_rfl
 i21:=by kernel_rfl
 i37:=by kernel_rfl
 i46:=by kernel_rfl
 i51:=by kernel_rfl
 i53:=by kernel_rfl
 i75:=by kernel_rfl
 i76:=by kernel_rfl
 i80:=by kernel_rfl
 i85:=by kernel_rfl
 i127:=by kernel_rfl
 i143:=by kernel_rfl
 i145:=by kernel_rfl
 i167:=by kernel_rfl
 i168:=by kernel_rfl
 i171:=by kernel_rfl
 i173:=by kernel_rfl
 i175:=by kernel_rfl
 i210:=by kernel_rfl
 i212:=by kernel_rfl
 i232:=by kernel_rfl
 i233:=by kernel_rfl
 m15:=by kernel_rfl
 m16:=by kernel_rfl
 m17:=by kernel_rfl
 m18:=by kernel_rfl
 m19:=by kernel_rfl
 c0:=by kernel_rfl
 c2:=by kernel_rfl
 c3:=by kernel_rfl
 c4:=by kernel_rfl
 c5:=by kernel_rfl
 c9:=by kernel_rfl
 c20:=by kernel_rfl
 c21:=by kernel_rfl
 c37:=by kernel_rfl
 c46:=by kernel_rfl
 c51:=by kernel_rfl
 c53:=by kernel_rfl
 c75:=by kernel_rfl
 c76:=by kernel_rfl
 c80:=by kernel_rfl
 c85:=by kernel_rfl
 c127:=by kernel_rfl
 c143:=by kernel_rfl
 c145:=by kernel_rfl
 c167:=by kernel_rfl
 c168:=by kernel_rfl
 c171:=by kernel_rfl
 c173:=by kernel_rfl
 c175:=by kernel_rfl
 c210:=by kernel_rfl
 c212:=by kernel_rfl
 c213:=by kernel_rfl
 c232:=by kernel_rfl
 c233:=by kernel_rfl }
theorem QZ (s:List UInt8)(hs:s.length<=1000000)(dA:s≠[])(hd:∀c∈s,bu c=true)(w:World)(h:lZ w):bD Tryz.prog 117 [str s] w λr w' =>
  (r=.tuple #[.int .i64 (r6 s),.nilIface]\/(12<r6 s/\∃v t p,r=.tuple #[.int .i64 v,.iface t p]))/\Below w.heap.size w w':=by
 obtain⟨⟨t1,p1,h1⟩,⟨t2,p2,h2⟩⟩:=h;refine bx Tryz.func117 (by kernel_rfl) (by kernel_rfl) ?_;rcases Q0 dA hd with ha|⟨ha,hb⟩
 ·refine Calls.mono (Any.strconv_Atoi_ok ZX ⟨s.toArray⟩ (by show s.length<=_;omega) _ ha w) ?_
  rintro e w' ⟨rfl,hw⟩;refine⟨_,rfl,.inl rfl,?_⟩;rcases hw with rfl|⟨t,rfl⟩
  ·exact Below.refl _ _
  exact Lib.bytesWorld_below _ _ _
 refine Calls.mono (Any.strconv_Atoi_range ZX ⟨s.toArray⟩ (by show s.length<=_;omega) ha _ w h2 (.inr ⟨_,_,rfl⟩)) ?_
 rintro e w' ⟨N,rfl,_,_,hw⟩;exact⟨_,rfl,.inr ⟨hb,_,_,_,rfl⟩,hw⟩
theorem Lj {pb B:Nat}{w:World}{l:List Cae.Tok}(h:PS pb B w l):Pc 167 [.pointer (some ⟨pb,0,none⟩)] pb B w l eF (λ_ r n=>r=.int .i64 (n:Int)/\n<=12):=by
 obtain⟨t,r,rfl⟩:=h.tl.cons;obtain⟨b,o,c,hB,hc,dA,c0,c1,c2,c3⟩:=h.hd;have cb:w.cell? ⟨pb,0,none⟩=some (.slice (some ⟨b,o,none⟩) (r.length+1) c):=hB.cell rfl;have hle:=h.le;have bZ:=h.lt;refine dm Tryz.func167 rfl (by kernel_rfl) [.tmp 2] rfl ?_;push_cast -dsimp(maxSteps:=4000000) [Tryz.ntmps167];push_cast -dsimp[cb,Nat.zero_mul,Nat.add_zero,c3];refine⟨by omega,?_⟩;refine aR (z:=[.int .i64 0,str [],.int .i64 0]) (by kernel_rfl) ?_;intro w1 au;have B1:=au.aN;have P1:=h.below au.below;have z1:=au.size;have b1:=au.below;push_cast -dsimp;refine aF (xt:=91) (n:=3) (by kernel_rfl) B1 rfl (by decide) (by simp;exact⟨rfl,rfl,rfl⟩) ?_;intro w2 bT;have B2:aO w2 w.heap.size 91 [.int .i64 t.kind,str t.text,.int .i64 t.pos]:=bT.aN;have P2:=P1.kept bT.kept (λi hi=>by omega);have z2:=bT.size;have b2:=b1.trans (bT.kept.below (B:=w.heap.size) (by omega) (λi h=>by omega));have k2:Kept (·=pb) w w2:=Kept.aJ b2 (λi h1 h2=>by omega);have d0:w2.cell? ⟨w.heap.size,0,none⟩=some (.int .i64 t.kind):=B2.cell rfl;have d1:w2.cell? ⟨w.heap.size,1,none⟩=some (str t.text):=B2.cell rfl;push_cast -dsimp[d0];refine⟨λhk=>?_,λhk=>?_⟩
 ·have iY:isKind 2 (t::r)=false:=by
   have:t.kind≠2:=λe=>hk (by omega);simp[isKind,Cae.hd,this]
  refine aK (j2 3 P2) (λ_ _ h=>h.elim) ?_;rintro c w4 ⟨ht,hb⟩;push_cast -dsimp;exact⟨3,_,by unfold eF bE;rw[iY];rfl,ht.mono (by omega),k2.trans (Kept.aJ hb (X:=(·=pb)) (λi h1 h2=>by omega)) (λi _ h=>h)⟩
 have hkk:t.kind=2:=by omega
 have iY:isKind 2 (t::r)=true:=by simp[isKind,Cae.hd,hkk]
 have Sw:=h.tl.num t (by simp) hkk;push_cast -dsimp[d1];refine aA (QZ t.text (h.tl.txt t (by simp)) Sw.1 Sw.2 w2 P2.er) ?_;rintro rv w3 ⟨hr,b3⟩;have P3:=P2.below b3;have z3:=b3.size;have k3:Kept (·=pb) w w3:=k2.trans (Kept.aJ b3 (X:=(·=pb)) (λi h1 h2=>by omega)) (λi _ h=>h);have pE:12<r6 t.text->eF (t::r)=.error (4,(Cae.hd (t::r)).pos):=λF0=>by
  unfold eF bE;rw[iY];simp[Cae.pb,eA,Cae.hd,F0,ck]
 rcases hr with rfl|⟨F0,v,t',p,rfl⟩
 ·push_cast -dsimp;refine⟨λhh=>?_,λhh=>?_⟩
  ·refine aK (j2 4 P3) (λ_ _ h=>h.elim) ?_;rintro c w4 ⟨ht,hb⟩;push_cast -dsimp;exact⟨4,_,pE (by omega),ht.mono (by omega),k3.trans (Kept.aJ hb (X:=(·=pb)) (λi h1 h2=>by omega)) (λi _ h=>h)⟩
  have h5:t.kind≠5:=by omega
  obtain⟨b4,o4,c4,qW,hc4,aKX,_,_,_,_⟩:=P3.hd;have Qy:w3.cell? ⟨pb,0,none⟩=some (.slice (some ⟨b4,o4,none⟩) (r.length+1) c4):=qW.cell rfl;push_cast -dsimp[Qy,oX];refine⟨by omega,?_⟩;refine aC qW (by simp) rfl ?_;intro w4 aj;have P4:=P3.pop qW h5 aj;have k4:=k3.trans aj.kept (λi _ h=>h);push_cast -dsimp;have F0:¬12<r6 t.text:=by omega
  exact⟨r6 t.text,r,by unfold eF bE;rw[iY];simp[Cae.pb,eA,Cae.hd,F0,bV,h5,pr],⟨rfl,by omega⟩,P4,k4⟩
 push_cast -dsimp;refine aK (j2 4 P3) (λ_ _ h=>h.elim) ?_;rintro c w4 ⟨ht,hb⟩;push_cast -dsimp;exact⟨4,_,pE (by omega),ht.mono (by omega),k3.trans (Kept.aJ hb (X:=(·=pb)) (λi h1 h2=>by omega)) (λi _ h=>h)⟩
end Go.Proofs.YtodeeahdhnjpkaaGreatDoor
end
section
namespace Cae
def fC (r:Rg):List Int:=(if 0<=r.1/\r.1<=1114111 then [r.1] else [])++(if 0<=r.2/\r.2<=1114111 then [r.2+1] else [])
def turns (L:List Rg):List Int:=[0,1114112]++L.flatMap fC
def nD (out:List Rg)(a b:Int):List Rg :=
 match out.getLast? with
 | none=>[(a,b-1)]
 | some r=>if r.2+1=a then out.dropLast++[(r.1,b-1)] else out++[(a,b-1)]
def ju (g:Int->Bool)(out:List Rg)(a b:Int):List Rg:=if a=b\/g a=false then out else nD out a b
def oZ (g:Int->Bool):List Rg->List Int->List Rg
 | out,a::b::l=>oZ g (ju g out a b) (b::l)
 | out,_=>out
def qL (g:Int->Bool)(L:List Rg):List Rg:=oZ g [] ((turns L).mergeSort λa b=>decide (a<=b))
structure mX (g:Int->Bool)(out:List Rg)(a:Int):Prop where
 right:aH (-2) out=true
 last:uV (-2) out+1<=a
 has:∀p,bm out p=(decide (0<=p/\p<a) && g p)
theorem GY {g:Int->Bool}{out:List Rg}{a b:Int}(h:mX g out a)(h0:0<=a)(Ks:a<b)(hb:b<=1114112)(hg:∀p,a<=p->p<b->g p=true):mX g (nD out a b) b:=by
 obtain⟨hr,hl,hh⟩:=h;have key:∀p,(decide (0<=p/\p<b) && g p)=((decide (0<=p/\p<a) && g p) || decide (a<=p/\p<=b-1)):=by
  intro p;by_cases h1:a<=p/\p<b
  ·rw[hg p h1.1 h1.2,decide_eq_true (p:=0<=p/\p<b) (by omega),decide_eq_true (p:=a<=p/\p<=b-1) (by omega),Bool.or_true,Bool.and_true]
  rw[decide_eq_false (p:=a<=p/\p<=b-1) (by omega),Bool.or_false];congr 1;apply decide_eq_decide.2;omega
 rcases List.eq_nil_or_concat out with rfl|⟨m,r,rfl⟩
 ·refine⟨?_,?_,λp=>?_⟩
  ·show aH (-2) [(a,b-1)]=true
   rw[cE];exact⟨⟨by simp only;omega,by simp only;omega,by simp only;omega⟩,rfl⟩
  ·show b-1+1<=b;omega
  show bm [(a,b-1)] p=_
  rw[key,<-hh,bU];simp[gT]
 rw[List.concat_eq_append]at *
 have Se:(m++[r]).getLast?=some r:=by simp
 rw[jL]at hl;rw[fD]at hr;unfold nD;rw[Se];simp only;by_cases he:r.2+1=a
 ·rw[if_pos he];have hd:(m++[r]).dropLast=m:=by simp
  rw[hd];refine⟨?_,?_,λp=>?_⟩
  ·rw[fD];simp only;exact⟨hr.1,by omega,by omega,by omega⟩
  ·rw[jL];simp only;omega
  rw[key,<-hh,kK,kK,bU,bU,gT,Bool.or_false,Bool.or_false,Bool.or_assoc];congr 1;rw[<-Bool.decide_or];apply decide_eq_decide.2;simp only;omega
 rw[if_neg he];refine⟨?_,?_,λp=>?_⟩
 ·rw[fD,fD,jL];simp only;exact⟨hr,by omega,by omega,by omega⟩
 ·rw[jL];simp only;omega
 rw[key,<-hh,kK (m++[r]),bU,gT,Bool.or_false]
theorem mX.skip {g:Int->Bool}{out:List Rg}{a b:Int}(h:mX g out a)(Ks:a<=b)(hg:∀p,a<=p->p<b->g p=false):mX g out b:=by
 refine⟨h.right,by have:=h.last;omega,λp=>?_⟩;rw[h.has];by_cases h1:a<=p/\p<b
 ·rw[hg p h1.1 h1.2,Bool.and_false,Bool.and_false]
 congr 1;apply decide_eq_decide.2;omega
def QH (g:Int->Bool)(l:List Int):Prop:=∀(a b:Int) (u v:List Int),l=u++a::b::v->∀p,a<=p->p<b->g p=g a
theorem vL {g:Int->Bool}{out:List Rg}{a b:Int}(h:mX g out a)(h0:0<=a)(Ks:a<=b)(hb:b<=1114112)(hg:∀p,a<=p->p<b->g p=g a):mX g (ju g out a b) b:=by
 unfold ju;by_cases he:a=b
 ·rw[if_pos (.inl he),<-he];exact h
 cases hga:g a with
 | false =>
  rw[if_pos (.inr rfl)];exact h.skip Ks (λp h1 h2=>by rw[hg p h1 h2,hga])
 | true =>
  rw[if_neg (by rintro(h|h)<;>simp_all)];exact GY h h0 (by omega) hb (λp h1 h2=>by rw[hg p h1 h2,hga])
theorem vN {g:Int->Bool}:∀(l:List Int) (out:List Rg) (a:Int),mX g out a->(a::l).Pairwise (·<=·)->(∀x∈a::l,0<=x/\x<=1114112)->QH g (a::l)->mX g (oZ g out (a::l)) ((a::l).getLast (by simp))
 | [],out,a,h,_,_,_=>h
 | b::l,out,a,h,hp,hm,hs=>by
  rw[List.pairwise_cons]at hp;have h1:=hm a (by simp);have h2:=hm b (by simp);have h3:=vL h h1.1 (hp.1 b (by simp)) h2.2 (hs a b [] l rfl)
  have:=vN l _ b h3 hp.2 (λx hx=>hm x (List.mem_cons_of_mem _ hx)) (λc d u v e=>hs c d (a::u) v (by rw[e];rfl));rw[List.getLast_cons (by simp)];exact this
theorem H2 {r:Rg}{x:Int}(h:x∈fC r):0<=x/\x<=1114112:=by
 unfold fC at h;rw[List.mem_append]at h;rcases h with h|h
 ·split at h
  ·rw[List.mem_singleton.1 h];omega
  cases h
 split at h
 ·rw[List.mem_singleton.1 h];omega
 cases h
theorem nr {L:List Rg}{x:Int}(h:x∈turns L):0<=x/\x<=1114112:=by
 unfold turns at h;rcases List.mem_append.1 h with h|h
 ·simp at h;omega
 obtain⟨r,_,hx⟩:=List.mem_flatMap.1 h;exact H2 hx
def wS (g:Int->Bool)(L:List Rg):Prop:=∀p q:Int,(∀r∈L,(r.1<=p↔r.1<=q)/\(p<=r.2↔q<=r.2))->g p=g q
theorem BS {g:Int->Bool}{L:List Rg}(hg:wS g L){l:List Int}(hl:l.Perm (turns L))(hp:l.Pairwise (·<=·)):QH g l:=by
 intro a b u v e p h1 h2;have hm:∀x∈l,0<=x/\x<=1114112:=λx hx=>nr (hl.mem_iff.1 hx);have ha:=hm a (by rw[e];simp);have hb:=hm b (by rw[e];simp);have no:∀x∈turns L,¬(a<x/\x<b):=by
  intro x hx hh;have hx:=hl.mem_iff.2 hx;rw[e]at hx hp;rw[List.pairwise_append]at hp;obtain⟨_,NP,hp3⟩:=hp;rw[List.pairwise_cons,List.pairwise_cons]at NP;rcases List.mem_append.1 hx with hx|hx
  ·have:=hp3 x hx a (by simp);omega
  rcases List.mem_cons.1 hx with hx|hx
  ·omega
  rcases List.mem_cons.1 hx with hx|hx
  ·omega
  have:=NP.2.1 x hx;omega
 refine hg p a λr hr=>?_;have t1:0<=r.1->r.1<=1114111->r.1∈turns L:=λh1 h2=>List.mem_append_right _ (List.mem_flatMap.2 ⟨r,hr,List.mem_append_left _ (by rw[if_pos ⟨h1,h2⟩];simp)⟩);have t2:0<=r.2->r.2<=1114111->r.2+1∈turns L:=λh1 h2=>List.mem_append_right _ (List.mem_flatMap.2 ⟨r,hr,List.mem_append_right _ (by rw[if_pos ⟨h1,h2⟩];simp)⟩);refine⟨⟨λh=>?_,λh=>by omega⟩,⟨λh=>by omega,λh=>?_⟩⟩
 ·by_cases hh:r.1<=a
  ·exact hh
  have:=no _ (t1 (by omega) (by omega));omega
 by_cases hh:p<=r.2
 ·exact hh
 have:=no _ (t2 (by omega) (by omega));omega
theorem o8 {g:Int->Bool}{L:List Rg}(hg:wS g L):aH (-2) (qL g L)=true/\∀p,bm (qL g L) p=(decide (0<=p/\p<=1114111) && g p):=by
 have lE:=List.mergeSort_perm (turns L) λa b=>decide (a<=b);have uq:((turns L).mergeSort λa b=>decide (a<=b)).Pairwise (·<=·):=by
  have:=List.pairwise_mergeSort (le:=λa b:Int=>decide (a<=b)) (λa b c h1 h2=>by simp only[decide_eq_true_eq]at *;omega) (λa b=>by simp only[Bool.or_eq_true,decide_eq_true_eq];omega) (turns L);exact this.imp λh=>of_decide_eq_true h
 have cO:=BS hg lE uq;unfold qL;generalize (turns L).mergeSort (λa b=>decide (a<=b))=l at lE uq cO ⊢
 have hm:∀x∈l,0<=x/\x<=1114112:=λx hx=>nr (lE.mem_iff.1 hx);have m0:(0:Int)∈l:=lE.mem_iff.2 (by simp[turns]);have m1:(1114112:Int)∈l:=lE.mem_iff.2 (by simp[turns]);match l,hm,m0,m1,uq,cO with
 | a::l,hm,m0,m1,uq,cO =>
  have ha:a=0:=by
   have h1:=hm a (by simp);rw[List.pairwise_cons]at uq;rcases List.mem_cons.1 m0 with h|h
   ·exact h.symm
   have:=uq.1 0 h;omega
  have xd:(a::l).getLast (by simp)=1114112:=by
   have h1:=hm _ (List.getLast_mem (l:=a::l) (by simp));have h2:∀(l:List Int) (hn:l≠[]),l.Pairwise (·<=·)->∀x∈l,x<=l.getLast hn:=by
    intro l;induction l with
    | nil=>intro hn;exact absurd rfl hn
    | cons b m ih =>
     intro hn hp x hx;rw[List.pairwise_cons]at hp;cases m with
     | nil=>simp at hx;simp[hx]
     | cons c m =>
      rw[List.getLast_cons (by simp)];rcases List.mem_cons.1 hx with rfl|hx
      ·exact hp.1 _ (List.getLast_mem _)
      exact ih (by simp) hp.2 x hx
   have h3:=h2 _ (by simp) uq 1114112 m1;omega
  have h0:mX g [] a:=⟨rfl,by show -2+1<=a;omega,λp=>by rw[gT,decide_eq_false (by omega),Bool.false_and]⟩
  have:=vN l [] a h0 uq hm cO;rw[xd]at this;refine⟨this.right,λp=>?_⟩;rw[this.has];congr 1;apply decide_eq_decide.2;omega
theorem fE {L:List Rg}:∀(l:List Rg),(∀r∈l,r∈L)->wS (bm l) L
 | [],_=>λp q _=>rfl
 | r::l,h=>λp q hr=>by
  have h1:=hr r (h r (List.mem_cons_self ..));rw[bU,bU,fE l (λx hx=>h x (List.mem_cons_of_mem _ hx)) p q hr];congr 1;apply decide_eq_decide.2;rw[h1.1,h1.2]
theorem Yq {s t:List Rg}(hs:aH (-2) s=true)(ht:aH (-2) t=true):qL (λp=>bm s p || bm t p) (s++t)=pA s t:=by
 have h:=o8 (g:=λp=>bm s p || bm t p) (L:=s++t) λp q hr=>by
  simp only;rw[fE s (λr h=>List.mem_append_left _ h) p q hr,fE t (λr h=>List.mem_append_right _ h) p q hr]
 exact q9 h.1 (kQ s t) λp=>by
  rw[h.2,BQ hs ht,Bool.and_or_distrib_left,j6 hs,j6 ht]
theorem VQ {s t:List Rg}(hs:aH (-2) s=true)(ht:aH (-2) t=true):qL (λp=>bm s p && bm t p) (s++t)=nF s t:=by
 have h:=o8 (g:=λp=>bm s p && bm t p) (L:=s++t) λp q hr=>by
  simp only;rw[fE s (λr h=>List.mem_append_left _ h) p q hr,fE t (λr h=>List.mem_append_right _ h) p q hr]
 exact q9 h.1 (oW s t) λp=>by
  rw[h.2,yi hs ht,<-Bool.and_assoc,j6 hs]
theorem PC {s t:List Rg}(hs:aH (-2) s=true)(ht:aH (-2) t=true):qL (λp=>bm s p && !bm t p) (s++t)=lU s t:=by
 have h:=o8 (g:=λp=>bm s p && !bm t p) (L:=s++t) λp q hr=>by
  simp only;rw[fE s (λr h=>List.mem_append_left _ h) p q hr,fE t (λr h=>List.mem_append_right _ h) p q hr]
 exact q9 h.1 (rU s t) λp=>by
  rw[h.2,HJ hs ht,<-Bool.and_assoc,j6 hs]
theorem VR {s:List Rg}(hs:aH (-2) s=true):qL (λp=>!bm s p) s=fm s:=by
 have h:=o8 (g:=λp=>!bm s p) (L:=s) λp q hr=>by simp only;rw[fE s (λ_ h=>h) p q hr]
 exact q9 h.1 (gN hs) λp=>by rw[h.2,mJ hs]
theorem xS (L:List Rg):(L.flatMap fC).length<=2*L.length:=by
 induction L with
 | nil=>simp
 | cons r L ih =>
  have h:(fC r).length<=2:=by unfold fC;rw[List.length_append];split<;>split<;>simp
  rw[List.flatMap_cons,List.length_append,List.length_cons];omega
theorem BW (L:List Rg):(turns L).length<=2*L.length+2:=by
 have:=xS L;unfold turns;rw[List.length_append];simp only[List.length_cons,List.length_nil];omega
theorem HZ {g:Int->Bool}{A:List Int}{out:List Rg}{k:Nat}{a b:Int}(ha:A[k]?=some a)(hb:A[k+1]?=some b):oZ g out (A.drop k)=oZ g (ju g out a b) (A.drop (k+1)):=by
 have h1:=(List.getElem?_eq_some_iff.1 ha).1;have h2:=(List.getElem?_eq_some_iff.1 hb).1;rw[List.drop_eq_getElem_cons h1,List.drop_eq_getElem_cons h2,(List.getElem?_eq_some_iff.1 ha).2,(List.getElem?_eq_some_iff.1 hb).2,oZ]
theorem KP {g:Int->Bool}{A:List Int}{out:List Rg}{k:Nat}(h:A.length<=k+1):oZ g out (A.drop k)=out:=by
 have hl:(A.drop k).length<=1:=by rw[List.length_drop];omega
 match A.drop k,hl with
 | [],_=>rfl
 | [x],_=>rfl
theorem PF {g:Int->Bool}{L:List Rg}{A:List Int}(lE:A.Perm (turns L))(hp:A.Pairwise (·<=·))(hg:wS g L){out:List Rg}{k:Nat}{a b:Int}(ha:A[k]?=some a)(hb:A[k+1]?=some b)(h:mX g out a) :
  mX g (ju g out a b) b/\0<=a/\a<=b/\b<=1114112:=by
 have h1:=List.getElem?_eq_some_iff.1 ha;have h2:=List.getElem?_eq_some_iff.1 hb;have m1:=nr (lE.mem_iff.1 (List.mem_of_getElem? ha));have m2:=nr (lE.mem_iff.1 (List.mem_of_getElem? hb));have Ks:a<=b:=by
  have:=List.pairwise_iff_getElem.1 hp k (k+1) h1.1 h2.1 (by omega);rw[h1.2,h2.2]at this;exact this
 have e:A=A.take k++a::b::A.drop (k+2):=by
  conv=>lhs;rw[<-List.take_append_drop k A,List.drop_eq_getElem_cons h1.1,List.drop_eq_getElem_cons h2.1,h1.2,h2.2]
 exact⟨vL h m1.1 Ks m2.2 (BS hg lE hp a b _ _ e),m1.1,Ks,m2.2⟩
theorem KQ {g:Int->Bool}{L:List Rg}{A:List Int}(lE:A.Perm (turns L))(hp:A.Pairwise (·<=·)):∃a,A[0]?=some a/\mX g [] a:=by
 have m0:(0:Int)∈A:=lE.mem_iff.2 (by simp[turns]);match A,hp,m0,lE with
 | a::l,hp,m0,lE =>
  have h1:=nr (lE.mem_iff.1 (List.mem_cons_self ..));have ha:a=0:=by
   rw[List.pairwise_cons]at hp;rcases List.mem_cons.1 m0 with h|h
   ·exact h.symm
   have:=hp.1 0 h;omega
  exact⟨a,rfl,rfl,by show -2+1<=a;omega,λp=>by rw[gT,decide_eq_false (by omega),Bool.false_and]⟩
theorem Dk (L:List Rg):((turns L).mergeSort λa b=>decide (a<=b)).Perm (turns L)/\((turns L).mergeSort λa b=>decide (a<=b)).Pairwise (·<=·):=by
 refine⟨List.mergeSort_perm _ _,?_⟩
 have:=List.pairwise_mergeSort (le:=λa b:Int=>decide (a<=b)) (λa b c h1 h2=>by simp only[decide_eq_true_eq]at *;omega) (λa b=>by simp only[Bool.or_eq_true,decide_eq_true_eq];omega) (turns L);exact this.imp λh=>of_decide_eq_true h
theorem JZ (out:List Rg)(a b:Int):(nD out a b).length<=out.length+1:=by
 unfold nD;split
 ·simp
 split
 ·rw[List.length_append,List.length_dropLast];simp
 simp
theorem KL (g:Int->Bool)(out:List Rg)(a b:Int):(ju g out a b).length<=out.length+1:=by
 unfold ju;split
 ·omega
 exact JZ out a b
theorem PJ (A B:List Rg):turns (A++B)=turns A++B.flatMap fC:=by
 unfold turns;rw[List.flatMap_append,List.append_assoc]
theorem ko:∀(f:Nat) (cur l:List UInt8),(Go.Lib.fieldsGoD f cur l).length<=f+1
 | 0,cur,l=>by rw[Go.Lib.fieldsGoD];split<;>simp
 | f+1,cur,l=>by
  have h1:=ko f [] (l.drop (Go.Lib.decodeL l).2);have h2:=ko f (cur++l.take (Go.Lib.decodeL l).2) (l.drop (Go.Lib.decodeL l).2);rw[Go.Lib.fieldsGoD];split
  ·split<;>simp
  split
  ·rw[List.length_append];split<;>simp<;>omega
  omega
theorem lr:∀(f:Nat) (cur l x:List UInt8),x∈Go.Lib.fieldsGoD f cur l->x.length<=cur.length+l.length
 | 0,cur,l,x,h=>by
  rw[Go.Lib.fieldsGoD]at h;split at h
  ·cases h
  rw[List.mem_singleton.1 h];omega
 | f+1,cur,l,x,h=>by
  rw[Go.Lib.fieldsGoD]at h;split at h
  ·split at h
   ·cases h
   rw[List.mem_singleton.1 h];omega
  split at h
  ·rcases List.mem_append.1 h with h|h
   ·split at h
    ·cases h
    rw[List.mem_singleton.1 h];omega
   have:=lr f _ _ x h;rw[List.length_drop]at this;simp at this;omega
  have:=lr f _ _ x h;rw[List.length_append,List.length_take,List.length_drop]at this;omega
theorem zt (l:List UInt8):(Go.Lib.fieldsD l).length<=l.length+2:=ko _ _ _
theorem Co {l x:List UInt8}(h:x∈Go.Lib.fieldsD l):x.length<=l.length:=by
 have:=lr _ _ _ _ h;simpa using this
theorem mz:∀(x cur rest:List UInt8),(∀b∈x,Go.Lib.isSp b=false)->Go.Lib.fieldsGo cur (x++rest)=Go.Lib.fieldsGo (cur++x) rest
 | [],cur,rest,_=>by simp
 | b::x,cur,rest,h=>by
  rw[List.cons_append,Go.Lib.fieldsGo_more _ _ _ (h b (by simp)),mz x _ _ (λc hc=>h c (by simp[hc]))];simp
theorem uj:∀(l:List (List UInt8)),(∀x∈l,x≠[]/\∀b∈x,Go.Lib.isSp b=false)->Go.Lib.fields (Go.Lib.join l [32])=l
 | [],_=>rfl
 | [x],h=>by
  have hx:=h x (by simp);unfold Go.Lib.fields;rw[Go.Lib.join_one,<-List.append_nil x,mz x [] [] hx.2];unfold Go.Lib.fieldsGo;rw[List.nil_append,if_neg (by simpa using hx.1),List.append_nil]
 | x::y::l,h=>by
  have hx:=h x (by simp);have e:Go.Lib.join (x::y::l) [32]=x++32::Go.Lib.join (y::l) [32]:=by
   rw[Go.Lib.join_cons,Go.Lib.join_cons];simp[Go.Lib.joinTail]
  have ih:=uj (y::l) (λz hz=>h z (by simp at hz ⊢;exact .inr hz));unfold Go.Lib.fields at ih ⊢
  rw[e,mz x [] _ hx.2,List.nil_append,Go.Lib.fieldsGo_end x 32 _ (by decide) hx.1,ih]
theorem Aq:∀b:UInt8,kO b=true->Go.Lib.isSp b=false/\b.toNat<128/\b≠91/\b≠93:=by
 intro b h;unfold kO at h;unfold Go.Lib.isSp;simp only[Bool.or_eq_true,Bool.and_eq_true,decide_eq_true_eq]at h;have dA:∀k:Nat,k<48\/k=91\/k=93->b≠UInt8.ofNat k:=by
  intro k hk e
  have:=congrArg UInt8.toNat e;rw[UInt8.toNat_ofNat']at this;omega
 have h9:=dA 9 (by omega);have nH:=dA 10 (by omega);have FZ:=dA 11 (by omega);have F0:=dA 12 (by omega);have zD:=dA 13 (by omega);have Fa:=dA 32 (by omega);refine⟨?_,by omega,dA 91 (by omega),dA 93 (by omega)⟩;simp only[Bool.or_eq_false_iff,beq_eq_false_iff_ne];exact⟨⟨⟨⟨⟨h9,nH⟩,FZ⟩,F0⟩,zD⟩,Fa⟩
theorem BK {r:Rg}(h0:0<=r.1)(h1:r.1<4294967296)(h2:r.2<4294967296):∀b∈mW r,Go.Lib.isSp b=false/\b.toNat<128/\b≠91/\b≠93:=by
 intro b hb;unfold mW at hb;rcases List.mem_append.1 hb with hb|hb
 ·exact Aq b (fG (by omega) b hb)
 split at hb
 ·rcases List.mem_cons.1 hb with rfl|hb
  ·decide
  exact Aq b (fG (by omega) b hb)
 cases hb
theorem xz {P:UInt8->Prop}(Fa:P 32):∀(l:List (List UInt8)),(∀x∈l,∀b∈x,P b)->∀b∈Go.Lib.join l [32],P b
 | [],_,b,hb=>by cases hb
 | [x],h,b,hb=>by
  rw[Go.Lib.join_one]at hb;exact h x (by simp) b hb
 | x::y::l,h,b,hb=>by
  have e:Go.Lib.join (x::y::l) [32]=x++32::Go.Lib.join (y::l) [32]:=by
   rw[Go.Lib.join_cons,Go.Lib.join_cons];simp[Go.Lib.joinTail]
  rw[e]at hb;rcases List.mem_append.1 hb with hb|hb
  ·exact h x (by simp) b hb
  rcases List.mem_cons.1 hb with rfl|hb
  ·exact Fa
  exact xz Fa (y::l) (λz hz=>h z (by simp at hz ⊢;exact .inr hz)) b hb
theorem xF {l:List Rg}(h:aH (-2) l=true):∀b∈iZ l,b.toNat<128/\b≠91/\b≠93:=by
 refine xz (by decide) _ λx hx b hb=>?_;obtain⟨q,hq,rfl⟩:=List.mem_map.1 hx
 have:=jM (by omega) h q hq;exact(BK (by omega) (by omega) (by omega) b hb).2
theorem FU {l:List Rg}(h:aH (-2) l=true):Go.Lib.fieldsD (iZ l)=l.map mW:=by
 rw[Go.Lib.fieldsD_ascii _ λb hb=>(xF h b hb).1];refine uj _ λx hx=>?_;obtain⟨q,hq,rfl⟩:=List.mem_map.1 hx
 have:=jM (by omega) h q hq;exact⟨Jy q,λb hb=>(BK (by omega) (by omega) (by omega) b hb).1⟩
theorem j1 {cs:List UInt8}:∀{l:List UInt8} {c:UInt8} {r:List UInt8},(∀b∈l,b∈cs)->c ∉ cs->(l++c::r).dropWhile (cs.contains ·)=c::r
 | [],c,r,_,hc=>by
  rw[List.nil_append,List.dropWhile_cons,if_neg (by simpa using hc)]
 | b::l,c,r,h,hc=>by
  rw[List.cons_append,List.dropWhile_cons,if_pos (by simpa using h b (by simp))];exact j1 (λx hx=>h x (by simp[hx])) hc
theorem PI {l:List Rg}(h:aH (-2) l=true):Go.Lib.trimS (fR l) [91,93]=iZ l:=by
 have hb:=xF h;have e:fR l=91::(iZ l++[93]):=rfl;rw[e];generalize iZ l=s at hb ⊢
 unfold Go.Lib.trimS Go.Lib.trimRightS Go.Lib.trimLeftS;rcases List.eq_nil_or_concat s with rfl|⟨m,c,rfl⟩
 ·rfl
 rw[List.concat_eq_append]at *
 have hc:c ∉ [(91:UInt8),93]:=by have:=hb c (by simp);simp[this.2.1,this.2.2]
 have hr:(91::((m++[c])++[93])).reverse=[93]++c::(m.reverse++[91]):=by simp
 rw[hr,j1 (by simp) hc];have hrr:(c::(m.reverse++[91])).reverse=[91]++(m++[c]):=by simp
 rw[hrr];cases m with
 | nil=>exact j1 (by simp) hc
 | cons d m =>
  have hd:d ∉ [(91:UInt8),93]:=by have:=hb d (by simp);simp[this.2.1,this.2.2]
  exact j1 (by simp) hd
theorem PH (s cs:List UInt8):(Go.Lib.trimS s cs).length<=s.length:=by
 have dw:∀(p:UInt8->Bool) (l:List UInt8),(l.dropWhile p).length<=l.length:=λp l=>(List.dropWhile_sublist p).length_le;unfold Go.Lib.trimS Go.Lib.trimRightS Go.Lib.trimLeftS;refine Nat.le_trans (dw _ _) ?_;rw[List.length_reverse];refine Nat.le_trans (dw _ _) ?_;rw[List.length_reverse];exact Nat.le_refl _
theorem sH {c:UInt8}{k:Nat}{a r:List UInt8}(h:a.contains c=false):Go.Lib.splitK [c] 0 (k+1) (a++c::r)=a::Go.Lib.splitK [c] 0 k r:=by
 have hi:=mf c (a++c::r);have hc:(a++c::r).contains c=true:=by rw[j0];simp
 rw[if_pos hc,(u6 h).1,<-Go.Lib.index_one]at hi;rw[Go.Lib.splitK,if_neg (by rw[hi];simp;try omega),hi,Int.toNat_natCast,Nat.add_zero,List.take_left]
 congr 2;rw[List.length_singleton,<-List.drop_drop,List.drop_left];rfl
theorem HQ {c:UInt8}{k:Nat}{a:List UInt8}(h:a.contains c=false):Go.Lib.splitK [c] 0 k a=[a]:=by
 cases k with
 | zero=>rfl
 | succ k =>
  have hi:=mf c a;rw[h,if_neg (by simp),<-Go.Lib.index_one]at hi;rw[Go.Lib.splitK,hi];rfl
theorem vJ {c:UInt8}:∀(k:Nat) (s x:List UInt8),x∈Go.Lib.splitK [c] 0 k s->x.length<=s.length
 | 0,s,x,h=>by rw[List.mem_singleton.1 h];exact Nat.le_refl _
 | k+1,s,x,h=>by
  rw[Go.Lib.splitK]at h;split at h
  ·rw[List.mem_singleton.1 h];exact Nat.le_refl _
  rcases List.mem_cons.1 h with rfl|h
  ·rw[List.length_take];omega
  have:=vJ k _ x h;rw[List.length_drop]at this;omega
def lT (t:List UInt8):List (List UInt8):=Go.Lib.splitK [45] 0 (min 3 ((t++45::t).length+1)-1) (t++45::t)
theorem Ow {c:List UInt8}(k:Nat)(s:List UInt8):∃b r,Go.Lib.splitK c 0 k s=b::r:=by
 cases k with
 | zero=>exact⟨_,_,rfl⟩
 | succ k=>rw[Go.Lib.splitK];split<;>exact⟨_,_,rfl⟩
theorem Jt (t:List UInt8):∃a b r,lT t=a::b::r/\a.length<=2*t.length+1/\b.length<=2*t.length+1:=by
 have hs:∀x∈lT t,x.length<=2*t.length+1:=λx hx=>by
  have:=vJ _ _ x hx;rw[List.length_append,List.length_cons]at this;omega
 have key:∃a b r,lT t=a::b::r:=by
  unfold lT;have hc:(t++45::t).contains (45:UInt8)=true:=by rw[j0];simp
  have hi:=mf 45 (t++45::t);rw[if_pos hc,<-Go.Lib.index_one]at hi;have hk:∃k,min 3 ((t++45::t).length+1)-1=k+1:=⟨min 3 ((t++45::t).length+1)-2,by rw[List.length_append,List.length_cons];omega⟩;obtain⟨k,hk⟩:=hk;rw[hk,Go.Lib.splitK,if_neg (by rw[hi];simp;try omega)]
  obtain⟨b,r,e⟩:=Ow (c:=[45]) k ((t++45::t).drop ((Go.Lib.index (t++45::t) [45]).toNat+[(45:UInt8)].length));exact⟨_,b,r,by rw[e]⟩
 obtain⟨a,b,r,e⟩:=key;exact⟨a,b,r,e,hs a (by rw[e];simp),hs b (by rw[e];simp)⟩
theorem OL {r:Rg}(h0:0<=r.1)(h1:r.1<4294967296)(h2:r.2<4294967296)(hle:r.1<=r.2):∃m,lT (mW r)=fu r.1.toNat::fu r.2.toNat::m:=by
 have hn:=uG (n:=r.1.toNat) (c:=45) (by omega) (by rfl);have AJ:=uG (n:=r.2.toNat) (c:=45) (by omega) (by rfl);have pG:=List.length_pos_iff.2 (Jy r);have hk:min 3 ((mW r++45::mW r).length+1)-1=2:=by rw[List.length_append,List.length_cons];omega
 unfold lT;rw[hk];clear hk pG;unfold mW;by_cases bZ:r.1<r.2
 ·rw[if_pos bZ,List.append_assoc,List.cons_append,sH hn,sH AJ];exact⟨_,rfl⟩
 rw[if_neg bZ,List.append_nil,sH hn,HQ hn];have e:r.2=r.1:=by omega
 rw[e];exact⟨_,rfl⟩
end Cae
end
section
namespace Go.Proofs.YtodeeahdhnjpkaaGreatDoor
open Go.Vc Go.Proofs Go.RowKit Cae
attribute [local irreducible] cw ag aq a8 runK bD Sl Vc.Own vc aW cN ai
def PG:Go.Shelf.Ren:=⟨λ| 160=>112|232=>149|231=>148|227=>150|234=>152|233=>151|236=>154|235=>153|228=>179|271=>182|151=>181|197=>180|120=>210|152=>209|260=>208|137=>89|119=>231|224=>109|225=>108|217=>107|266=>144|n=>n,λ| 9=>9|4=>4|3=>3|5=>5|117=>217|116=>216|0=>0|124=>220|21=>21|105=>255|46=>109|119=>211|139=>305|138=>304|n=>n,λ| 3=>8|4=>9|n=>n⟩
theorem aHA:Go.Proofs.Lays.n160 Tryz.prog PG:={
 mixed:=by kernel_rfl
 f119:=Tryz.func231.trans (congrArg some (by kernel_rfl))
 f120:=Tryz.func210.trans (congrArg some (by kernel_rfl))
 f137:=Tryz.func89.trans (congrArg some (by kernel_rfl))
 f151:=Tryz.func181.trans (congrArg some (by kernel_rfl))
 f152:=Tryz.func209.trans (congrArg some (by kernel_rfl))
 f160:=Tryz.func112.trans (congrArg some (by kernel_rfl))
 f197:=Tryz.func180.trans (congrArg some (by kernel_rfl))
 f217:=Tryz.func107.trans (congrArg some (by kernel_rfl))
 f224:=Tryz.func109.trans (congrArg some (by kernel_rfl))
 f225:=Tryz.func108.trans (congrArg some (by kernel_rfl))
 f227:=Tryz.func150.trans (congrArg some (by kernel_rfl))
 f228:=Tryz.func179.trans (congrArg some (by kernel_rfl))
 f231:=Tryz.func148.trans (congrArg some (by kernel_rfl))
 f232:=Tryz.func149.trans (congrArg some (by kernel_rfl))
 f233:=Tryz.func151.trans (congrArg some (by kernel_rfl))
 f234:=Tryz.func152.trans (congrArg some (by kernel_rfl))
 f235:=Tryz.func153.trans (congrArg some (by kernel_rfl))
 f236:=Tryz.func154.trans (congrArg some (by kernel_rfl))
 f260:=Tryz.func208.trans (congrArg some (by kernel_rfl))
 f266:=Tryz.func144.trans (congrArg some (by kernel_rfl))
 f271:=Tryz.func182.trans (congrArg some (by kernel_rfl))
 t0:=Tryz.underlying0
 a0:=Tryz.isAgg0
 z0:=Tryz.sizeOf0
 v0:=Tryz.zeroValue0
 t3:=Tryz.underlying3
 a3:=Tryz.isAgg3
 z3:=Tryz.sizeOf3
 v3:=Tryz.zeroValue3
 t4:=Tryz.underlying4
 a4:=Tryz.isAgg4
 z4:=Tryz.sizeOf4
 v4:=Tryz.zeroValue4
 t5:=Tryz.underlying5
 a5:=Tryz.isAgg5
 z5:=Tryz.sizeOf5
 v5:=Tryz.zeroValue5
 t9:=Tryz.underlying9
 a9:=Tryz.isAgg9
 z9:=Tryz.sizeOf9
 v9:=Tryz.zeroValue9
 t21:=Tryz.underlying21
 a21:=Tryz.isAgg21
 z21:=Tryz.sizeOf21
 v21:=Tryz.zeroValue21
 t46:=Tryz.underlying109
 a46:=Tryz.isAgg109
 z46:=Tryz.sizeOf109
 v46:=Tryz.zeroValue109
 t105:=Tryz.underlying255
 a105:=Tryz.isAgg255
 z105:=Tryz.sizeOf255
 v105:=Tryz.zeroValue255
 t116:=Tryz.underlying216
 a116:=Tryz.isAgg216
 z116:=Tryz.sizeOf216
 t117:=Tryz.underlying217
 a117:=Tryz.isAgg217
 z117:=Tryz.sizeOf217
 v117:=Tryz.zeroValue217
 t119:=Tryz.underlying211
 a119:=Tryz.isAgg211
 z119:=Tryz.sizeOf211
 t124:=Tryz.underlying220
 a124:=Tryz.isAgg220
 z124:=Tryz.sizeOf220
 v124:=Tryz.zeroValue220
 t138:=Tryz.underlying304
 a138:=Tryz.isAgg304
 z138:=Tryz.sizeOf304
 v138:=Tryz.zeroValue304
 t139:=Tryz.underlying305
 a139:=Tryz.isAgg305
 z139:=Tryz.sizeOf305
 v139:=Tryz.zeroValue305
 g3:=by kernel_rfl
 g4:=by kernel_rfl }
def FT:Go.Shelf.Ren:=⟨λ| 157=>111|229=>146|199=>147|261=>178|311=>206|312=>207|n=>n,λ| 9=>9|31=>164|3=>3|5=>5|4=>4|119=>211|0=>0|40=>213|152=>250|21=>21|154=>252|51=>206|141=>254|196=>277|193=>274|198=>280|49=>278|194=>275|201=>283|226=>301|46=>109|227=>302|n=>n,λ| 0=>4|6=>5|n=>n⟩
theorem XC:Go.Proofs.Lays.n157 Tryz.prog FT:={
 mixed:=by kernel_rfl
 f157:=Tryz.func111.trans (congrArg some (by kernel_rfl))
 f199:=Tryz.func147.trans (congrArg some (by kernel_rfl))
 f229:=Tryz.func146.trans (congrArg some (by kernel_rfl))
 f261:=Tryz.func178.trans (congrArg some (by kernel_rfl))
 f311:=Tryz.func206.trans (congrArg some (by kernel_rfl))
 f312:=Tryz.func207.trans (congrArg some (by kernel_rfl))
 t0:=Tryz.underlying0
 a0:=Tryz.isAgg0
 z0:=Tryz.sizeOf0
 v0:=Tryz.zeroValue0
 t3:=Tryz.underlying3
 a3:=Tryz.isAgg3
 z3:=Tryz.sizeOf3
 v3:=Tryz.zeroValue3
 t4:=Tryz.underlying4
 a4:=Tryz.isAgg4
 z4:=Tryz.sizeOf4
 v4:=Tryz.zeroValue4
 t5:=Tryz.underlying5
 a5:=Tryz.isAgg5
 z5:=Tryz.sizeOf5
 v5:=Tryz.zeroValue5
 t9:=Tryz.underlying9
 a9:=Tryz.isAgg9
 z9:=Tryz.sizeOf9
 v9:=Tryz.zeroValue9
 t21:=Tryz.underlying21
 a21:=Tryz.isAgg21
 z21:=Tryz.sizeOf21
 v21:=Tryz.zeroValue21
 t31:=Tryz.underlying164
 a31:=Tryz.isAgg164
 z31:=Tryz.sizeOf164
 v31:=Tryz.zeroValue164
 t40:=Tryz.underlying213
 a40:=Tryz.isAgg213
 z40:=Tryz.sizeOf213
 v40:=Tryz.zeroValue213
 t46:=Tryz.underlying109
 a46:=Tryz.isAgg109
 z46:=Tryz.sizeOf109
 v46:=Tryz.zeroValue109
 t49:=Tryz.underlying278
 a49:=Tryz.isAgg278
 z49:=Tryz.sizeOf278
 v49:=Tryz.zeroValue278
 t51:=Tryz.underlying206
 a51:=Tryz.isAgg206
 z51:=Tryz.sizeOf206
 v51:=Tryz.zeroValue206
 t119:=Tryz.underlying211
 a119:=Tryz.isAgg211
 z119:=Tryz.sizeOf211
 t141:=Tryz.underlying254
 a141:=Tryz.isAgg254
 z141:=Tryz.sizeOf254
 v141:=Tryz.zeroValue254
 t152:=Tryz.underlying250
 a152:=Tryz.isAgg250
 z152:=Tryz.sizeOf250
 v152:=Tryz.zeroValue250
 t154:=Tryz.underlying252
 a154:=Tryz.isAgg252
 z154:=Tryz.sizeOf252
 v154:=Tryz.zeroValue252
 t193:=Tryz.underlying274
 a193:=Tryz.isAgg274
 z193:=Tryz.sizeOf274
 v193:=Tryz.zeroValue274
 t194:=Tryz.underlying275
 a194:=Tryz.isAgg275
 z194:=Tryz.sizeOf275
 v194:=Tryz.zeroValue275
 t196:=Tryz.underlying277
 a196:=Tryz.isAgg277
 z196:=Tryz.sizeOf277
 v196:=Tryz.zeroValue277
 t198:=Tryz.underlying280
 a198:=Tryz.isAgg280
 z198:=Tryz.sizeOf280
 v198:=Tryz.zeroValue280
 t201:=Tryz.underlying283
 a201:=Tryz.isAgg283
 z201:=Tryz.sizeOf283
 v201:=Tryz.zeroValue283
 t226:=Tryz.underlying301
 a226:=Tryz.isAgg301
 z226:=Tryz.sizeOf301
 v226:=Tryz.zeroValue301
 t227:=Tryz.underlying302
 a227:=Tryz.isAgg302
 z227:=Tryz.sizeOf302
 v227:=Tryz.zeroValue302
 g0:=by kernel_rfl
 g6:=by kernel_rfl }
def HR:Go.Shelf.Ren:=⟨λ| 147=>113|221=>155|268=>183|138=>184|143=>48|195=>211|197=>180|218=>212|219=>82|260=>208|217=>107|225=>108|224=>109|267=>110|266=>144|314=>145|n=>n,λ| 9=>9|3=>3|31=>164|4=>4|0=>0|105=>255|21=>21|5=>5|46=>109|119=>211|139=>305|138=>304|146=>209|51=>206|n=>n,λ| 1=>2|3=>8|4=>9|n=>n⟩
theorem Yi:Go.Proofs.Lays.n147 Tryz.prog HR:={
 mixed:=by kernel_rfl
 f138:=Tryz.func184.trans (congrArg some (by kernel_rfl))
 f143:=Tryz.func48.trans (congrArg some (by kernel_rfl))
 f147:=Tryz.func113.trans (congrArg some (by kernel_rfl))
 f195:=Tryz.func211.trans (congrArg some (by kernel_rfl))
 f197:=Tryz.func180.trans (congrArg some (by kernel_rfl))
 f217:=Tryz.func107.trans (congrArg some (by kernel_rfl))
 f218:=Tryz.func212.trans (congrArg some (by kernel_rfl))
 f219:=Tryz.func82.trans (congrArg some (by kernel_rfl))
 f221:=Tryz.func155.trans (congrArg some (by kernel_rfl))
 f224:=Tryz.func109.trans (congrArg some (by kernel_rfl))
 f225:=Tryz.func108.trans (congrArg some (by kernel_rfl))
 f260:=Tryz.func208.trans (congrArg some (by kernel_rfl))
 f266:=Tryz.func144.trans (congrArg some (by kernel_rfl))
 f267:=Tryz.func110.trans (congrArg some (by kernel_rfl))
 f268:=Tryz.func183.trans (congrArg some (by kernel_rfl))
 f314:=Tryz.func145.trans (congrArg some (by kernel_rfl))
 t0:=Tryz.underlying0
 a0:=Tryz.isAgg0
 z0:=Tryz.sizeOf0
 v0:=Tryz.zeroValue0
 t3:=Tryz.underlying3
 a3:=Tryz.isAgg3
 z3:=Tryz.sizeOf3
 v3:=Tryz.zeroValue3
 t4:=Tryz.underlying4
 a4:=Tryz.isAgg4
 z4:=Tryz.sizeOf4
 v4:=Tryz.zeroValue4
 t5:=Tryz.underlying5
 a5:=Tryz.isAgg5
 z5:=Tryz.sizeOf5
 v5:=Tryz.zeroValue5
 t9:=Tryz.underlying9
 a9:=Tryz.isAgg9
 z9:=Tryz.sizeOf9
 v9:=Tryz.zeroValue9
 t21:=Tryz.underlying21
 a21:=Tryz.isAgg21
 z21:=Tryz.sizeOf21
 v21:=Tryz.zeroValue21
 t31:=Tryz.underlying164
 a31:=Tryz.isAgg164
 z31:=Tryz.sizeOf164
 v31:=Tryz.zeroValue164
 t46:=Tryz.underlying109
 a46:=Tryz.isAgg109
 z46:=Tryz.sizeOf109
 v46:=Tryz.zeroValue109
 t51:=Tryz.underlying206
 a51:=Tryz.isAgg206
 z51:=Tryz.sizeOf206
 v51:=Tryz.zeroValue206
 t105:=Tryz.underlying255
 a105:=Tryz.isAgg255
 z105:=Tryz.sizeOf255
 v105:=Tryz.zeroValue255
 t119:=Tryz.underlying211
 a119:=Tryz.isAgg211
 z119:=Tryz.sizeOf211
 t138:=Tryz.underlying304
 a138:=Tryz.isAgg304
 z138:=Tryz.sizeOf304
 v138:=Tryz.zeroValue304
 t139:=Tryz.underlying305
 a139:=Tryz.isAgg305
 z139:=Tryz.sizeOf305
 v139:=Tryz.zeroValue305
 t146:=Tryz.underlying209
 a146:=Tryz.isAgg209
 z146:=Tryz.sizeOf209
 v146:=Tryz.zeroValue209
 g1:=by kernel_rfl
 g3:=by kernel_rfl
 g4:=by kernel_rfl }
structure Tv (w:World):Prop where
 mx:∃m,w.cell? ⟨2,0,none⟩=some (.int .i64 m)
 sp:Lib.TabIs Tryz.prog w "strings.asciiSpace" .u8 Lib.asciiSpaceTab
 wt:Lib.WhiteTab 5 w
theorem Tv.below {w w':World}(h:Tv w)(hb:Below w.heap.size w w'):Tv w' :=
 ⟨by obtain⟨m,hm⟩:=h.mx;exact⟨m,(hb.cell (World.block_lt_of_cell? _ _ hm)).trans hm⟩,TabIs_below (g:=4) (by kernel_rfl) h.sp hb,WhiteTab_below h.wt hb⟩
theorem aDr (s:List UInt8)(hs:s.length<=1000000000)(w:World):bD Tryz.prog 112 [str s,str [91,93]] w λr w'=>r=str (Lib.trimS s [91,93])/\Below w.heap.size w w':=by
 refine bx Tryz.func112 (by kernel_rfl) (by kernel_rfl) ?_;refine Calls.mono (Any.strings_Trim_laid aHA (by kernel_rfl) ⟨s.toArray⟩ ⟨[(91:UInt8),93].toArray⟩ w (by show s.length<=_;omega) (by decide) (ascii_of_all (by decide))) ?_
 rintro e w' ⟨rfl,hb⟩;exact⟨_,rfl,rfl,hb⟩
theorem Rz (s:List UInt8)(hs:s.length<=1000000000)(w:World)(h:Tv w):bD Tryz.prog 111 [str s] w λr w'=>Vc.Own w.heap.size 9 1 Vc.encS w' r (Lib.fieldsD s)/\Below w.heap.size w w':=by
 refine bx Tryz.func111 (by kernel_rfl) (by kernel_rfl) ?_;refine Calls.mono (Any.strings_Fields_any XC (by kernel_rfl) (by kernel_rfl) (by kernel_rfl) ⟨s.toArray⟩ w (by show s.length<_;omega) h.sp h.wt) ?_
 rintro e w' ⟨A,rfl,hA,ho,hb⟩;refine⟨_,rfl,?_,hb⟩;unfold Vc.Own;refine⟨?_,λ_=>rfl⟩;have e:∀l:List (List UInt8),l.flatMap Vc.encS=l.map λx=>Value.string ⟨x.toArray⟩:=by
  intro l;induction l with
  | nil=>rfl
  | cons x l ih=>rw[List.flatMap_cons,ih];rfl
 rw[e];exact ho
theorem VC (t:List UInt8)(ht:t.length<=1000000000)(w:World)(h:Tv w):bD Tryz.prog 113 [str (t++45::t),str [45],.int .i64 3] w λr w'=>Sl (λ_=>False) 1 (En Vc.encS) w' r (lT t)/\Below w.heap.size w w':=by
 refine bx Tryz.func113 (by kernel_rfl) (by kernel_rfl) ?_;obtain⟨m,hm⟩:=h.mx;refine Calls.mono (Any.strings_SplitN Yi (by kernel_rfl) ⟨(t++45::t).toArray⟩ ⟨[(45:UInt8)].toArray⟩ 3 m w (by show (t++45::t).length<_;simp only[List.length_append,List.length_cons];omega) hm (by decide) (by decide) (by decide)) ?_
 rintro e w' ⟨rfl,rfl⟩;have Au:(⟨(t++45::t).toArray⟩:ByteArray).size=(t++45::t).length:=rfl;rw[Au];have hd:=Lib.splitB_data ⟨[(45:UInt8)].toArray⟩ 0 (min 3 ((t++45::t).length+1)-1) ⟨(t++45::t).toArray⟩;have hle:=Lib.splitB_length_le ⟨[(45:UInt8)].toArray⟩ 0 (min 3 ((t++45::t).length+1)-1) ⟨(t++45::t).toArray⟩;generalize hgB:Lib.splitB ⟨[(45:UInt8)].toArray⟩ 0 (min 3 ((t++45::t).length+1)-1) ⟨(t++45::t).toArray⟩=B at hd hle;have hp:B.map (λb=>b.data.toList)=lT t:=hd;have hl:B.length=(lT t).length:=by rw[<-hp,List.length_map]
 refine⟨_,rfl,?_,(Below.refl _ _).alloc (Nat.le_refl _) _⟩;rw[hl];unfold Sl;refine⟨_,_,rfl,by rw[<-hl];omega,λi x hx=>⟨w.heap.size,0,Vc.encS x,rfl,λh=>h,rfl,λj u hu=>?_,rfl⟩⟩;rw[<-hp,List.getElem?_map]at hx;obtain⟨y,hy,hyx⟩:=Option.map_eq_some_iff.1 hx;match j,hu with
 | 0,hu =>
  cases hu;rw[World.cell?_alloc_new];subst hyx;unfold Lib.cellsOf;have hi:=(List.getElem?_eq_some_iff.1 hy).1;simp only[Nat.zero_add,Nat.mul_one,Nat.add_zero,List.getElem?_toArray];rw[List.getElem?_append_left (by rw[List.length_map];exact hi),List.getElem?_map,hy];rfl
 | j+1,hu=>cases hu
end Go.Proofs.YtodeeahdhnjpkaaGreatDoor
end
