/- Texts of this claim, merged: Prl3, Fp, Vq, Boom, Rp1, Rp2, Rp3, Rp4, Ptold, Pfld, Rfld. -/
import Derived.Test.YtodeeahdhnjpkaaGreatDoorM5
import Derived.Shelf.Strconv.AtoiAll
import Derived.Lib.CountLaws
import Derived.Lib.Split
import Derived.Lib.IndexBytes
import Derived.Lib.SlTrimSet
import Derived.Shelf.Strings.FieldsAny
import Derived.Shelf.Strings.SlTrimAscii
import Derived.Shelf.Strings.Split
import Derived.Shelf.Unicode.PredsPay
set_option maxRecDepth 100000
set_option linter.unusedSimpArgs false
set_option linter.unusedVariables false
set_option maxHeartbeats 8000000
section
namespace Cae
def W (l:List Cae.Tok):Nat:=(l.map fun t=>2*t.text.length+9).sum
theorem W_cons (t:Cae.Tok)(l:List Cae.Tok):W (t::l)=2*t.text.length+9+W l:=by simp[W]
def Me {α:Type}(c:Nat)(μ:α→Nat)(p:Pa α):Prop:=∀l x l',p l=.ok (x,l')→μ x+W l'≤W l+c
section
variable {α β:Type} {c d:Nat} {μ:α→Nat} {ν:β→Nat} {p:Pa α} {q:α→Pa β}
theorem Me.pr {x:α}:Me (μ x) μ (pr x):=fun l y l' h=>by cases h;omega
theorem Me.fail {e:Nat}:Me c μ (pfail e):=fun l y l' h=>by cases h
theorem Me.mono (h:Me c μ p)(hc:c≤d):Me d μ p:=fun l x l' e=>by have:=h l x l' e;omega
theorem Me.weak {μ':α→Nat}(h:Me c μ p)(hm:∀x,μ' x≤μ x):Me c μ' p:=fun l x l' e=>by have:=h l x l' e;have:=hm x;omega
theorem Me.pb {m:Nat}(h:Me c μ p)(k:∀x,Me (μ x+d) ν (q x))(hm:c+d≤m):Me m ν (pb p q):=fun l y l' e=>by
 obtain⟨x,l1,e1,e2⟩:=pb_ok e;have h1:=h l x l1 e1;have h2:=k x l1 y l' e2;omega
theorem Me.pif {cc:List Cae.Tok→Bool}{p1 p2:Pa α}(h1:Me c μ p1)(h2:Me c μ p2):Me c μ (pif cc p1 p2):=fun l x l' e=>by
 unfold Cae.pif at e;split at e
 ·exact h1 l x l' e
 ·exact h2 l x l' e
theorem Me.peek:Me 0 (fun _=>0) peek:=fun l x l' e=>by cases e;dsimp only;omega
theorem pop_ok {l l':List Cae.Tok}{x:Unit}(h:popP l=.ok (x,l')):∃t,l=t::l'∧t.kind≠5:=by
 cases l with
 | nil=>cases h
 | cons t r =>
  by_cases h5:t.kind=5
  ·simp[popP,h5]at h
  ·have e':popP (t::r)=.ok ((),r):=by simp[popP,h5]
   rw[e']at h;cases h;exact⟨t,rfl,h5⟩
theorem Me.pop:Me 0 (fun _=>9) popP:=fun l x l' e=>by
 obtain⟨t,rfl,_⟩:=pop_ok e;rw[W_cons];dsimp only;omega
theorem Me.popn:Me 0 (fun _=>0) popP:=Me.pop.weak fun _=>Nat.zero_le _
end
theorem me_must (s:List UInt8):Me 0 (fun _=>9) (mustP s):=Me.pif Me.pop Me.fail
theorem me_name:Me 0 (fun n:List UInt8=>n.length+8) nameP:=fun l n l' e=>by
 unfold nameP pif at e;split at e
 ·split at e
  ·cases e
  ·obtain⟨t,l1,e1,e2⟩:=pb_ok e;cases e1;obtain⟨x,l2,e3,e4⟩:=pb_ok e2;cases e4;obtain⟨t,rfl,_⟩:=pop_ok e3;rw[W_cons]
   show t.text.length+8+W l'≤2*t.text.length+9+W l'+0
   omega
 ·cases e
def kn (k:KindP):Nat:=(kindText k true).length+3
theorem kt_le (k:KindP)(a:Bool):(kindText k a).length+3≤kn k:=by
 unfold kn;cases a with
 | true=>exact Nat.le_refl _
 | false=>cases k<;>simp[kindText]<;>omega
theorem kn_bin (c p:Nat)(k r:KindP):kn (.bin c p k r)≤kn k+kn r+2:=by
 have h1:=kt_le k false;have h2:=kt_le r true;unfold kn at *
 simp only[kindText,if_true,List.length_cons,List.length_append,List.length_nil];have:(if c=3 then [32,124,32] else if c=4 then [32,38,32] else [32,45,32]:List UInt8).length=3:=by split<;>(try split)<;>rfl
 rw[this];omega
theorem kn_not (p:Nat)(k:KindP):kn (.not p k)=kn k+1:=by simp[kn,kindText]
theorem me_bin:Me 0 (fun c:Nat=>if c=0 then 0 else 8) binP:=by
 have h:∀c:Nat,c≠0→Me 0 (fun c:Nat=>if c=0 then 0 else 8) (pb popP fun _=>pr c):=fun c hc=>Me.pb (d:=0) (Me.pop.weak (μ':=fun _=>8) fun _=>by omega) (fun _=>by have:=Me.pr (μ:=fun c:Nat=>if c=0 then 0 else 8) (x:=c);rw[if_neg hc]at this;exact this) (by omega)
 exact Me.pif (h 3 (by decide)) (Me.pif (h 4 (by decide)) (Me.pif (h 5 (by decide)) Me.pr))
theorem me_kindLoop {one:Pa KindP}(h:Me 0 kn one)(pos:Nat):∀(n:Nat) (k:KindP),Me (kn k) kn (kindLoop one pos n k)
 | 0,k=>Me.fail
 | n+1,k=>Me.pb (d:=kn k) me_bin (fun c=>by
   by_cases h0:c=0
   ·rw[if_pos h0,if_pos h0];exact Me.pr.mono (by omega)
   ·rw[if_neg h0,if_neg h0];refine Me.pb (d:=8+kn k) h (fun r=>(me_kindLoop h pos n _).mono ?_) (by omega)
    have:=kn_bin c pos k r;omega) (by omega)
theorem me_kindW {one:Pa KindP}(h:Me 0 kn one):Me 0 kn (kindW one):=Me.pb (d:=0) Me.peek (fun t=>Me.pb (d:=0) h (fun k=>me_kindLoop h _ _ _) (by omega)) (by omega)
theorem me_lit:Me 0 kn litP:=fun l k l' e=>by
 obtain⟨t,l1,e1,e2⟩:=pb_ok e;cases e1;cases hs:setP (hd l).text with
 | none=>rw[hs]at e2;cases e2
 | some s =>
  rw[hs]at e2;obtain⟨x,l2,e3,e4⟩:=pb_ok e2;cases e4;obtain⟨t,rfl,_⟩:=pop_ok e3;have h1:printP s=t.text:=(setP_ok hs).2;rw[W_cons,←h1]
  show (printP s).length+3+W l'≤_
  omega
theorem me_one:∀d,Me 0 kn (oneP d)
 | 0=>Me.fail
 | d+1=>Me.pif me_lit (Me.pif (Me.pb (d:=0) Me.peek (fun t=>Me.pb (d:=0) Me.pop (fun _=>Me.pb (d:=9) (me_one d) (fun k=>Me.pr.mono (by rw[kn_not];omega)) (by omega)) (by omega)) (by omega))
   (Me.pif (Me.pb (d:=0) Me.popn (fun _=>Me.pb (d:=0) (me_kindW (me_one d)) (fun k=>Me.pb (d:=kn k) (me_must _) (fun _=>Me.pr.mono (by omega)) (by omega)) (by omega)) (by omega))
    (Me.pb (d:=0) Me.peek (fun t=>Me.pb (d:=0) me_name (fun n=>Me.pr.mono (by show n.length+3≤_;omega)) (by omega)) (by omega))))
def pn (x:PatP):Nat:=(patText x 2).length+3
theorem inPar_len (b:Bool)(s:List UInt8):s.length≤(inPar b s).length∧(inPar b s).length≤s.length+2:=by
 cases b<;>simp[inPar]<;>omega
theorem pt_le (x:PatP)(n:Nat):(patText x n).length+3≤pn x:=by
 unfold pn;cases x with
 | cat l =>
  simp only[patText];by_cases h:1<n
  ·simp[h,inPar]
  ·simp[h,inPar]
 | alt l =>
  simp only[patText];have h0:0<2:=by decide
  have h1:(patTexts l 1)=patTexts l 1:=rfl;by_cases h:0<n
  ·simp[h,inPar]
  ·simp[h,inPar]
 | _=>simp[patText]
theorem decP_len (n:Nat):(decP n).length≤2:=by unfold decP;split<;>(try split)<;>simp
theorem timesText_len (lo hi:Int):(timesText lo hi).length≤7:=by
 have h1:=decP_len lo.toNat;have h2:=decP_len hi.toNat;unfold timesText
 repeat' split
 all_goals simp
 all_goals omega
theorem pn_many (x:PatP)(lo hi:Int):pn (.many x lo hi)≤pn x+7:=by
 have:=timesText_len lo hi;unfold pn;simp only[patText,List.length_append];omega
def tot (l:List PatP):Nat:=(l.map pn).sum
theorem tot_snoc (l:List PatP)(x:PatP):tot (l++[x])=tot l+pn x:=by simp[tot]
theorem lens_le (l:List PatP)(n:Nat):Go.Lib.lens (patTexts l n)+3*l.length≤tot l∧(patTexts l n).length=l.length:=by
 induction l with
 | nil=>simp[patTexts,Go.Lib.lens,tot]
 | cons x l ih =>
  have:=pt_le x n;simp only[patTexts,Go.Lib.lens,tot,List.map_cons,List.sum_cons,List.length_cons]at *
  omega
theorem join_le (l:List PatP)(n:Nat)(sep:List UInt8)(hs:sep.length≤3):(Go.Lib.join (patTexts l n) sep).length≤tot l:=by
 cases l with
 | nil=>simp[patTexts,Go.Lib.join_nil]
 | cons x l =>
  have h1:=lens_le (x::l) n;simp only[patTexts]at *
  rw[Go.Lib.join_length];have h2:sep.length*(patTexts l n).length≤3*(patTexts l n).length:=Nat.mul_le_mul_right _ hs;simp only[List.length_cons]at h1;omega
theorem pn_cat (l:List PatP):pn (.cat l)≤tot l+5:=by
 have:=join_le l 2 [32] (by decide)
 have:=(inPar_len (decide (1<2)) (Go.Lib.join (patTexts l 2) [32])).2;unfold pn;simp only[patText];omega
theorem pn_alt (l:List PatP):pn (.alt l)≤tot l+5:=by
 have:=join_le l 1 [32,124,32] (by decide)
 have:=(inPar_len (decide (0<2)) (Go.Lib.join (patTexts l 1) [32,124,32])).2;unfold pn;simp only[patText];omega
theorem pn_row (l:List PatP):pn (rowOf l)≤tot l+5:=by
 match l with
 | []=>exact pn_cat []
 | [x]=>simp[rowOf,tot]
 | x::y::l=>exact pn_cat _
theorem pn_altOf (l:List PatP):pn (altOf l)≤tot l+5:=by
 match l with
 | []=>exact pn_alt []
 | [x]=>simp[altOf,tot]
 | x::y::l=>exact pn_alt _
theorem me_times:Me 0 (fun _=>0) timesP:=Me.pif (Me.pb (d:=0) Me.peek (fun t=>by
 by_cases h:12<decV t.text
 ·rw[if_pos h];exact Me.fail
 ·rw[if_neg h];exact Me.pb (d:=0) Me.popn (fun _=>Me.pr.mono (by omega)) (by omega)) (by omega)) Me.fail
theorem me_braces:Me 0 (fun _=>0) bracesP:=Me.pb (d:=0) me_times (fun lo=>Me.pif (Me.pb (d:=0) Me.popn (fun _=>Me.pif (Me.pb (d:=0) me_times (fun hi=>by
 by_cases h:hi<lo
 ·rw[if_pos h];exact Me.fail
 ·rw[if_neg h];exact Me.pb (d:=0) (me_must _) (fun _=>Me.pr.mono (by omega)) (by omega)) (by omega)) (Me.pb (d:=0) (me_must _) (fun _=>Me.pr.mono (by omega)) (by omega))) (by omega)) (Me.pb (d:=0) (me_must _) (fun _=>Me.pr.mono (by omega)) (by omega))) (by omega)
def sn:Option (Int×Int)→Nat
 | none=>0
 | some _=>8
theorem me_suffix:Me 0 sn suffixP:=by
 have h:∀r,Me 0 sn (pb popP fun _=>pr (some r)):=fun r=>Me.pb (d:=0) (Me.pop.weak (μ':=fun _=>8) fun _=>by omega) (fun _=>Me.pr) (by omega);refine Me.pif (h _) (Me.pif (h _) (Me.pif (h _) (Me.pif ?_ Me.pr)));exact Me.pb (d:=0) (Me.pop.weak (μ':=fun _=>8) fun _=>by omega) (fun _=>Me.pb (d:=8) me_braces (fun r=>Me.pr.mono (by show 8≤_;omega)) (by omega)) (by omega)
theorem me_againLoop (d:Nat):∀(n c:Nat) (x:PatP),Me (pn x) pn (againLoop d n c x)
 | 0,_,_=>Me.fail
 | n+1,c,x=>Me.pb (d:=pn x) me_suffix (fun r=>by
   cases r with
   | none=>exact Me.pr.mono (by omega)
   | some q =>
    show Me _ pn (if d≤c+1 then _ else _)
    by_cases h0:d≤c+1
    ·rw[if_pos h0];exact Me.fail
    ·rw[if_neg h0];refine(me_againLoop d n (c+1) _).mono ?_
     have:=pn_many x q.1 q.2
     show _≤8+pn x
     omega) (by omega)
theorem me_againW {d:Nat}{unit:Pa PatP}(h:Me 0 pn unit):Me 0 pn (againW d unit):=Me.pb (d:=0) h (fun x=>me_againLoop d _ _ _) (by omega)
theorem me_rowLoop {again:Pa PatP}(h:Me 0 pn again):∀(n:Nat) (a:List PatP),Me (tot a) tot (rowLoop again n a)
 | 0,_=>Me.fail
 | n+1,a=>Me.pif (Me.pb (d:=tot a) h (fun x=>(me_rowLoop h n _).mono (by rw[tot_snoc];omega)) (by omega)) Me.pr
theorem me_rowW {again:Pa PatP}(h:Me 0 pn again):Me 5 pn (rowW again):=Me.pb (d:=5) (me_rowLoop h _ _) (fun ps=>Me.pr.mono (by have:=pn_row ps;omega)) (by simp[tot])
theorem me_altLoop {row:Pa PatP}(h:Me 5 pn row):∀(n:Nat) (a:List PatP),Me (tot a) tot (altLoop row n a)
 | 0,_=>Me.fail
 | n+1,a=>Me.pif (Me.pb (d:=tot a) Me.pop (fun _=>Me.pb (d:=tot a) h (fun x=>(me_altLoop h n _).mono (by rw[tot_snoc];omega)) (by omega)) (by omega)) Me.pr
theorem me_altW {row:Pa PatP}(h:Me 5 pn row):Me 10 pn (altW row):=Me.pb (d:=5) h (fun x=>Me.pb (d:=5) (me_altLoop h _ _) (fun ps=>Me.pr.mono (by have:=pn_altOf ps;omega)) (by simp[tot])) (by omega)
theorem me_patW {d:Nat}{unit:Pa PatP}(h:Me 0 pn unit):Me 10 pn (patW d unit):=by
 unfold patW;by_cases h0:d=0
 ·rw[if_pos h0];exact Me.fail
 ·rw[if_neg h0];exact me_altW (me_rowW (me_againW h))
theorem me_paren {p:Pa PatP}(h:Me 10 pn p):Me 0 pn (pb popP fun _=>pb p fun x=>pb (mustP [41]) fun _=>pr x):=fun l x l' e=>by
 obtain⟨u,l1,e1,e2⟩:=pb_ok e;obtain⟨y,l2,e3,e4⟩:=pb_ok e2;obtain⟨v,l3,e5,e6⟩:=pb_ok e4;cases e6;have a1:=Me.pop _ _ _ e1;have a2:=h _ _ _ e3;have a3:=me_must _ _ _ _ e5;dsimp only at a1 a3;omega
theorem me_unit:∀d,Me 0 pn (unitP d)
 | 0=>Me.fail
 | d+1=>Me.pif (Me.pb (d:=0) Me.pop (fun _=>Me.pr.mono (by decide)) (by omega)) (Me.pif (Me.pb (d:=0) Me.pop (fun _=>Me.pr.mono (by decide)) (by omega))
   (Me.pif (me_paren (me_patW (me_unit d)))
    (Me.pif (Me.pb (d:=0) (me_one (d+1)) (fun k=>Me.pr.mono (by show (patText (.one k) 2).length+3≤_;simp only[patText];unfold kn;omega)) (by omega)) Me.fail)))
theorem me_pat (d:Nat):Me 10 pn (patP d):=me_patW (me_unit d)
def rn (r:RuleP):Nat:=(ruleText r).length
theorem rn_le (r:RuleP):rn r≤pn r.before+pn r.after+5:=by
 have h1:=pt_le r.before 0;have h2:=pt_le r.after 0;have a:(if r.brk=true then [98,114,101,97,107,32] else [107,101,101,112,32]:List UInt8).length≤6:=by split<;>simp
 have b:(if patText r.before 0=[] then [] else patText r.before 0++[32]:List UInt8).length≤(patText r.before 0).length+1:=by split<;>simp
 have c:(if patText r.after 0=[] then [] else 32::patText r.after 0:List UInt8).length≤(patText r.after 0).length+1:=by split<;>simp
 have e:rn r=(if r.brk=true then [98,114,101,97,107,32] else [107,101,101,112,32]:List UInt8).length+(if patText r.before 0=[] then [] else patText r.before 0++[32]:List UInt8).length+1+(if patText r.after 0=[] then [] else 32::patText r.after 0:List UInt8).length+2:=by
  unfold rn ruleText;rw[List.length_append,List.length_append,List.length_append,List.length_append];rfl
 omega
theorem me_says:Me 0 (fun _=>9) saysP:=Me.pif (Me.pb (d:=0) Me.pop (fun _=>Me.pr.mono (by omega)) (by omega)) (Me.pb (d:=0) (me_must _) (fun _=>Me.pr.mono (by omega)) (by omega))
theorem me_rule:Me 0 rn ruleP:=fun l r l' e=>by
 obtain⟨t,l0,e0,e⟩:=pb_ok e;obtain⟨b,l1,e1,e⟩:=pb_ok e;obtain⟨x,l2,e2,e⟩:=pb_ok e;obtain⟨_,l3,e3,e⟩:=pb_ok e;obtain⟨y,l4,e4,e⟩:=pb_ok e;obtain⟨_,l5,e5,e⟩:=pb_ok e;cases e;cases e0;have a1:=me_says _ _ _ e1;have a2:=me_pat _ _ _ _ e2;have a3:=me_must _ _ _ _ e3;have a4:=me_pat _ _ _ _ e4;have a5:=me_must _ _ _ _ e5;have a6:rn ⟨(hd l).pos,b,x,y⟩≤pn x+pn y+5:=rn_le ⟨(hd l).pos,b,x,y⟩;simp only at a1 a3 a5;omega
def cn (c:ClassP):Nat:=(classText c).length
theorem me_class:Me 0 cn classP:=fun l r l' e=>by
 obtain⟨t,l0,e0,e⟩:=pb_ok e;obtain⟨_,l1,e1,e⟩:=pb_ok e;obtain⟨n,l2,e2,e⟩:=pb_ok e;obtain⟨_,l3,e3,e⟩:=pb_ok e;obtain⟨k,l4,e4,e⟩:=pb_ok e;obtain⟨_,l5,e5,e⟩:=pb_ok e;cases e;cases e0;have a1:=me_must _ _ _ _ e1;have a2:=me_name _ _ _ e2;have a3:=me_must _ _ _ _ e3;have a4:=me_kindW (me_one 9) _ _ _ e4;have a5:=me_must _ _ _ _ e5
 have:=kt_le k false;dsimp only at a1 a2 a3 a5;simp only[cn,classText,List.length_append,List.length_cons,List.length_nil];omega
theorem me_ruleLoop:∀(n:Nat) (acc:List RuleP),Me (acc.map rn).sum (fun l=>(l.map rn).sum) (ruleLoop n acc)
 | 0,_=>Me.fail
 | n+1,acc=>Me.pif (by
   by_cases h:acc.length=20
   ·rw[if_pos h];exact Me.fail
   ·rw[if_neg h];intro l x l' e;obtain⟨r,l1,e1,e2⟩:=pb_ok e;have a1:=me_rule _ _ _ e1;have a2:=me_ruleLoop n _ _ _ _ e2;simp only[List.map_append,List.sum_append,List.map_cons,List.map_nil,List.sum_cons,List.sum_nil,List.length_append,List.length_cons,List.length_nil]at a2;dsimp only;omega) Me.pr
theorem me_classLoop:∀(n:Nat) (acc:List ClassP),Me (acc.map cn).sum (fun l=>(l.map cn).sum) (classLoop n acc)
 | 0,_=>Me.fail
 | n+1,acc=>Me.pif (by
   by_cases h:acc.length=20
   ·rw[if_pos h];exact Me.fail
   ·rw[if_neg h];intro l x l' e;obtain⟨r,l1,e1,e2⟩:=pb_ok e;have a1:=me_class _ _ _ e1;have a2:=me_classLoop n _ _ _ _ e2;simp only[List.map_append,List.sum_append,List.map_cons,List.map_nil,List.sum_cons,List.sum_nil]at a2;dsimp only;omega) Me.pr
theorem me_else:Me 0 (fun _=>0) elseP:=Me.pif (Me.pb (d:=0) Me.popn (fun _=>Me.pb (d:=0) (me_says.weak (μ':=fun _=>0) (fun _=>by omega)) (fun _=>Me.pb (d:=0) (me_must _) (fun _=>Me.pr.mono (by omega)) (by omega)) (by omega)) (by omega)) Me.pr
theorem flatS_len {α:Type}(f:α→List UInt8)(l:List α):(l.flatMap f).length=(l.map fun x=>(f x).length).sum:=by
 rw[List.length_flatMap]
theorem text_len {s:List UInt8}{f:FileP}(h:parseR s=.ok f):(fileText f).length≤11*s.length+60:=by
 obtain⟨l,l',tl,hn,hf,_⟩:=parseR_ok h;obtain⟨l1,l2,h1,h2,h3⟩:=fileP_ok hf;have a1:=me_classLoop _ _ _ _ _ h1;have a2:=me_ruleLoop _ _ _ _ _ h2;have a3:=me_else _ _ _ h3;simp only[List.map_nil,List.sum_nil,List.length_nil]at a1 a2;have hW:W (l++[⟨5,[],s.length⟩])≤11*s.length+9:=by
  obtain⟨s1,s2⟩:=tl.sum;have:∀l:List Cae.Tok,(∀t∈l,0<t.text.length)→W (l++[⟨5,[],s.length⟩])≤11*sumT l+9:=by
   intro l hl;induction l with
   | nil=>simp[W,sumT]
   | cons t l ih =>
    have h1:=ih (fun t ht=>hl t (List.mem_cons_of_mem _ ht));have h2:=hl t (by simp);rw[List.cons_append,W_cons];have:sumT (t::l)=t.text.length+sumT l:=by simp[sumT]
    omega
  have:=this l s2;omega
 have e:(fileText f).length=(f.classes.map cn).sum+(f.rules.map rn).sum+(elseText f.els).length:=by
  unfold fileText;rw[List.length_append,List.length_append,flatS_len,flatS_len];rfl
 have e2:(elseText f.els).length≤11:=by unfold elseText;split<;>simp
 omega
end Cae
end
section
namespace Go.Vc
open Go.RowKit
section
variable {P:Program} {t:Fr} {w:World} {K:VK} {Q:EP}
def Fun2 (P:Program)(f:FuncId)(args:List Value)(w:World)(R:VK)(E:List PanicEntry→World→Prop):Prop :=
 (callFunc f args.toArray).run P w=.ok (.enter f args.toArray) w∧Calls P f args.toArray w fun e w'=>match e with
  | .returned v=>R v w'
  | .panicked c=>E c w'
  | .outgrown=>False
theorem callP_of {f:FuncId}{args:List Value}{R:VK}{E:List PanicEntry→World→Prop}{p}(h:Fun2 P f args w R E)(k:∀v w',R v w'→K v w')(ke:∀c w',E c w'→Q (.panic c) t w'):callK P f args t w K Q p:=by
 unfold callK;rw[h.1];exact h.2.mono fun e w' he=>by cases e<;>first|exact k _ _ he|exact ke _ _ he|exact he.elim
theorem Fun.two {f:FuncId}{args:List Value}{R:VK}(h:Fun P f args w R):Fun2 P f args w R (fun _ _=>False) :=
 ⟨h.1,h.2.mono fun e w' ⟨v,he,hr⟩=>by subst he;exact hr⟩
def retE (P:Program)(rs:List ResultVar)(R:VK)(E:List PanicEntry→World→Prop)(_:Ph (R,E)):EP
 | .normal,t,w=>retL P t w rs fun vs=>R (tup vs) w
 | .ret,t,w=>retL P t w rs fun vs=>R (tup vs) w
 | .panic c,_,w=>E c w
 | _,_,_=>False
variable {R:VK} {E:List PanicEntry→World→Prop}
theorem retE_normal (rs)(p):retE P rs R E p .normal t w=retL P t w rs fun vs=>R (tup vs) w:=(rfl)
theorem retE_ret (rs)(p):retE P rs R E p .ret t w=retL P t w rs fun vs=>R (tup vs) w:=(rfl)
theorem retE_panic (rs)(c)(p):retE P rs R E p (.panic c) t w=E c w:=(rfl)
theorem fun2_of_vc {f:FuncId}{fn:Func}{c:Code}{args:List Value}(hf:P.funcs[f]?=some fn)(hb:fn.body=some c)(hn:(fn.name == "runtime.NumGoroutine")=false)
  (rs:List ResultVar) (hrs:fn.results=rs.toArray) (h:vc P c (retE P rs R E .mk) (fr0 args fn.ntmps) w .mk):Fun2 P f args w R E:=by
 refine⟨callFunc_enter hf (by simp[hb]) hn,calls_of_wp hf hb ?_⟩;have h1:=vc_ok c _ _ w h;unfold wpL at h1;have e:(args.toArray++Array.replicate (fn.ntmps-args.toArray.size) undef)=(fr0 args fn.ntmps).toArray:=by simp[fr0]
 rw[e];refine Code.wp_mono ?_ h1;rintro e a w' ⟨hd,hh⟩;have ha:a.tmps.toList.toArray=a.tmps:=by simp
 cases e<;>simp only[retE]at hh<;>first|exact hh.elim|skip
 ·obtain⟨vs,hv,hk⟩:=resultsC_run fn rs hrs _ _ hh;exact⟨hd,_,by rw[←ha];exact hv,hk⟩
 ·obtain⟨vs,hv,hk⟩:=resultsC_run fn rs hrs _ _ hh;exact⟨hd,_,by rw[←ha];exact hv,hk⟩
 ·exact⟨hd,hh⟩
theorem panicK {ty:TypeId}{v:Value}{p}(k:Q (.panic [{ v:=.iface ty v,recovered:=false }]) t w):valK P (Instr.panic (.iface ty v)) t w K Q p:=by
 unfold valK;have:((do pure (Next.value (←Instr.panic (.iface ty v))):Sem Next).run P w)=.halt (.panic (.iface ty v)) w:=rfl;rw[this];exact k
end
attribute [push_cast] retE_normal retE_ret retE_panic seqQ_panic blockQ_panic
end Go.Vc
end
section
end
section
namespace Go.Vc
open Go.RowKit
section
variable {P:Program} {ops:Array Oper} {m:Nat} {E:List PanicEntry→World→Prop} {w:World}
def quietOp (P:Program)(ops:Array Oper)(w:World)(i:Nat)(K:Act→Prop)(a:Act):Prop :=
 match ops[i]? with
 | none=>K a
 | some o=>if Region.wanted o (yielded ops a.tmps) then ∃v,(execOp a.eval o).run P w=.ok (.value v) w∧K (a.put o.dst v) else K (a.put o.dst undef)
def boomOp (P:Program)(ops:Array Oper)(w:World)(m:Nat)(E:List PanicEntry→World→Prop)(a:Act):Prop :=
 a.defers=[]∧∃o,ops[m]?=some o∧Region.wanted o (yielded ops a.tmps)=true∧∃f args w',(execOp a.eval o).run P w=.ok (.enter f args) w'∧Calls P f args w' fun e w''=>∃c,e=.panicked c∧E c w''
def wpB (P:Program)(ops:Array Oper)(w:World)(m:Nat)(E:List PanicEntry→World→Prop):Nat→Array Bool→Act→Prop
 | 0,_,_=>False
 | n+1,listed,a=>Region.ready .any ops listed≠[]∧∀i∈Region.ready .any ops listed,if i=m then boomOp P ops w m E a else quietOp P ops w i (wpB P ops w m E n (listed.setIfInBounds i true)) a
theorem quietOp_mono {i:Nat}{K K':Act→Prop}{a:Act}(hk:∀a,K a→K' a)(h:quietOp P ops w i K a):quietOp P ops w i K' a:=by
 unfold quietOp at *
 split
 ·rename_i ho;simp only[ho]at h;exact hk _ h
 ·rename_i o ho;simp only[ho]at h;split
  ·rename_i hw;simp only[hw,if_true]at h;obtain⟨v,h1,h2⟩:=h;exact⟨v,h1,hk _ h2⟩
  ·rename_i hw;simp only[hw]at h;exact hk _ h
theorem put_defers (a:Act)(d:Option Tmp)(v:Value):(a.put d v).defers=a.defers:=by cases d<;>rfl
theorem quietOp_swap {i j:Nat}{oi oj:Oper}{K:Act→Prop}{a:Act}(hi:ops[i]?=some oi)(hj:ops[j]?=some oj)(hap:oi.apart ops oj=true)
  (hsi:∀cs b,oi.op≠.select cs b) (hsj:∀cs b,oj.op≠.select cs b) (h:quietOp P ops w i (quietOp P ops w j K) a):quietOp P ops w j (quietOp P ops w i K) a:=by
 obtain⟨h1,h2,h3⟩:=Oper.apart_spec hap;have ej:∀(b:Act) (v:Value),execOp (b.put oi.dst v).eval oj=execOp b.eval oj:=fun b v=>execOp_put oj hsj b oi.dst v h1;have ei:∀(b:Act) (v:Value),execOp (b.put oj.dst v).eval oi=execOp b.eval oi:=fun b v=>execOp_put oi hsi b oj.dst v h3;have wj:∀(b:Act) (v:Value),Region.wanted oj (yielded ops (b.put oi.dst v).tmps)=Region.wanted oj (yielded ops b.tmps):=fun b v=>wanted_put oj b oi.dst v h1;have wi:∀(b:Act) (v:Value),Region.wanted oi (yielded ops (b.put oj.dst v).tmps)=Region.wanted oi (yielded ops b.tmps):=fun b v=>wanted_put oi b oj.dst v h3;have cm:∀(b:Act) (v u:Value),(b.put oi.dst v).put oj.dst u=(b.put oj.dst u).put oi.dst v:=fun b v u=>Act.put_comm b v u h2;unfold quietOp at h ⊢
 simp only[hi,hj,ej,ei,wj,wi]at h ⊢
 cases hwi:Region.wanted oi (yielded ops a.tmps)<;>cases hwj:Region.wanted oj (yielded ops a.tmps)<;>simp only[hwi,hwj,Bool.false_eq_true,if_true,if_false]at h ⊢
 ·rw[←cm];exact h
 ·obtain⟨v,hv,hk⟩:=h;exact⟨v,hv,by rw[←cm];exact hk⟩
 ·obtain⟨v,hv,hk⟩:=h;exact⟨v,hv,by rw[←cm];exact hk⟩
 ·obtain⟨v,hv,u,hu,hk⟩:=h;exact⟨u,hu,v,hv,by rw[←cm];exact hk⟩
theorem boomOp_swap {i:Nat}{oi om:Oper}{a:Act}(hi:ops[i]?=some oi)(hj:ops[m]?=some om)(hap:oi.apart ops om=true)(hsj:∀cs b,om.op≠.select cs b)(h:quietOp P ops w i (boomOp P ops w m E) a):boomOp P ops w m E a:=by
 obtain⟨h1,h2,h3⟩:=Oper.apart_spec hap;have key:∀v,boomOp P ops w m E (a.put oi.dst v)→boomOp P ops w m E a:=fun v ⟨hd,o,ho,hw,f,args,w',hr,hc⟩=>by
  rw[hj]at ho;cases ho;refine⟨by rw[←put_defers a oi.dst v];exact hd,om,hj,by rw[←wanted_put om a oi.dst v h1];exact hw,f,args,w',by rw[←execOp_put om hsj a oi.dst v h1];exact hr,hc⟩
 unfold quietOp at h;simp only[hi]at h;split at h
 ·obtain⟨v,_,hk⟩:=h;exact key v hk
 ·exact key _ h
theorem wpB_first {i:Nat}{oi:Oper}(hi:ops[i]?=some oi)(him:i≠m)(hsel:∀(j:Nat) (o:Oper) cs b,ops[j]?=some o→o.op≠.select cs b) :
  ∀(fuel:Nat) (listed:Array Bool) (a:Act),Shut ops listed →
   (∀j oj,ops[j]?=some oj→j≠i→listed.getD j true=false→((Region.before ops).getD j 0).testBit i=false→oi.apart ops oj=true) →
   i∈Region.ready .any ops listed→quietOp P ops w i (wpB P ops w m E fuel (listed.setIfInBounds i true)) a→wpB P ops w m E (fuel+1) listed a:=by
 intro fuel;induction fuel with
 | zero =>
  intro listed a _ _ hr H;exfalso;unfold quietOp at H;simp only[hi]at H;split at H
  ·obtain⟨v,_,hk⟩:=H;exact hk
  ·exact H
 | succ fuel ih =>
  intro listed a hS hfree hr H;refine⟨fun h=>(by rw[h]at hr;cases hr),fun j hj=>?_⟩;by_cases hji:j=i
  ·subst hji;rw[if_neg him];exact H
  ·obtain⟨hjun,oj,hoj,hall⟩:=mem_ready.1 hj;have hiun:listed.getD i false=false:=by
    have h0:=(mem_ready.1 hr).1;rcases Nat.lt_or_ge i listed.size with h'|h'
    ·simp[h']at h0 ⊢;exact h0
    ·simp[Array.getElem?_eq_none h']
   have hnot:((Region.before ops).getD j 0).testBit i=false:=by
    cases hb:((Region.before ops).getD j 0).testBit i with
    | false=>rfl
    | true=>have:=hS.before j i oj hoj hall hb;rw[hiun]at this;cases this
   have hap:=hfree j oj hoj hji hjun hnot;have h1:quietOp P ops w i (fun a=>if j=m then boomOp P ops w m E a else quietOp P ops w j (wpB P ops w m E fuel ((listed.setIfInBounds i true).setIfInBounds j true)) a) a :=
    quietOp_mono (fun a' hh=>hh.2 j (ready_mono hj hji)) H
   by_cases hjm:j=m
   ·subst hjm;simp only[if_true]at h1 ⊢
    exact boomOp_swap hi hoj hap (fun cs b=>hsel j oj cs b hoj) h1
   ·simp only[if_neg hjm]at h1 ⊢
    have h2:=quietOp_swap hi hoj hap (fun cs b=>hsel i oi cs b hi) (fun cs b=>hsel j oj cs b hoj) h1;refine quietOp_mono (fun a' h3=>ih (listed.setIfInBounds j true) a' (hS.set hj) ?_ (ready_mono hr (Ne.symm hji)) ?_) h2
    ·intro k ok hk hki hun hno;refine hfree k ok hk hki ?_ hno;by_cases hjk:j=k
     ·subst hjk;exact hjun
     ·rw[getD_set_ne true hjk]at hun;exact hun
    ·rw[Array.setIfInBounds_comm _ _ hji];exact h3
def quietFree (ops:Array Oper)(bf:Array Nat)(listed:Array Bool)(i:Nat):Bool :=
 match ops[i]? with
 | none=>false
 | some oi=>(List.range ops.size).all fun j=>j == i || listed.getD j true || match ops[j]? with
   | some oj=>(bf.getD j 0).testBit i || oi.apart ops oj
   | none=>true
theorem quietFree_spec {i:Nat}{oi:Oper}{listed:Array Bool}(hi:ops[i]?=some oi)(h:quietFree ops (Region.before ops) listed i=true)(j:Nat)(oj:Oper)
  (hj:ops[j]?=some oj) (hne:j≠i) (hun:listed.getD j true=false) (hno:((Region.before ops).getD j 0).testBit i=false):oi.apart ops oj=true:=by
 simp only[quietFree,hi,List.all_eq_true,List.mem_range]at h;have h1:=h j (Array.getElem?_eq_some_iff.1 hj).1;simp only[hj,Bool.or_eq_true,beq_iff_eq,hne,false_or,hun,Bool.false_eq_true,hno]at h1;exact h1
def boomFrom (P:Program)(ops:Array Oper)(bf:Array Nat):Nat→Nat→Array Bool→Bool
 | 0,k,listed=>Region.ready .any ops listed == [k]
 | n+1,k,listed=>(Region.ready .any ops listed).contains k && quietFree ops bf listed k && boomFrom P ops bf n (k+1) (listed.setIfInBounds k true)
def boomB (P:Program)(ops:Array Oper)(m:Nat):Bool:=Region.noSelect ops && decide (m<ops.size) && boomFrom P ops (Region.before ops) m 0 (Array.replicate ops.size false)
def boomLex (P:Program)(ops:Array Oper)(w:World)(m:Nat)(E:List PanicEntry→World→Prop):List Nat→Act→Prop
 | [],a=>boomOp P ops w m E a
 | i::r,a=>quietOp P ops w i (boomLex P ops w m E r) a
theorem wpB_lex (hs:Region.noSelect ops=true):∀(n k f:Nat) (listed:Array Bool) (a:Act),k+n=m→m<ops.size→n<f→Shut ops listed →
  boomFrom P ops (Region.before ops) n k listed=true→boomLex P ops w m E (List.range' k n) a→wpB P ops w m E f listed a
 | 0,k,f,listed,a,hk,hm,hf,hS,hB,h=>by
  obtain⟨f',rfl⟩:∃f',f=f'+1:=⟨f-1,by omega⟩;have hr:Region.ready .any ops listed=[k]:=by simpa[boomFrom] using hB
  have hkm:k=m:=by omega
  refine⟨by rw[hr];simp,fun i hi=>?_⟩;rw[hr]at hi;obtain rfl:=List.mem_singleton.1 hi;rw[if_pos hkm];exact h
 | n+1,k,f,listed,a,hk,hm,hf,hS,hB,h=>by
  obtain⟨f',rfl⟩:∃f',f=f'+1:=⟨f-1,by omega⟩;simp only[boomFrom,Bool.and_eq_true]at hB;obtain⟨⟨hr,hfree⟩,hB'⟩:=hB;have hlt:k<ops.size:=by omega
  have hr':k∈Region.ready .any ops listed:=by simpa using hr
  refine wpB_first (i:=k) (oi:=ops[k]) (by simp[hlt]) (by omega) (Region.noSelect_spec hs) f' listed a hS (quietFree_spec (by simp[hlt]) hfree) hr' ?_;simp only[List.range'_succ,boomLex]at h;exact quietOp_mono (fun a' hh=>wpB_lex hs n (k+1) f' _ a' (by omega) hm (by omega) (hS.set hr') hB' hh) h
theorem wpAny_of_boom {Q:Exit→Act→World→Prop}(hq:∀c a w',a.defers=[]→E c w'→Q (.panic c) a w'):∀(fuel:Nat) (listed:Array Bool) (a:Act),wpB P ops w m E fuel listed a→wpAny P .any ops Q fuel listed a w
 | 0,_,_,h=>h.elim
 | fuel+1,listed,a,h=>⟨fun h0=>absurd h0 h.1,fun i hi=>by
   have h1:=h.2 i hi;by_cases him:i=m
   ·subst him;rw[if_pos rfl]at h1;obtain⟨hd,o,ho,hw,f,args,w',hr,hc⟩:=h1;unfold wpOp;simp only[ho,hw,if_true];refine .inl ?_;unfold Oper.wp;rw[hr];unfold Oper.upon;exact hc.mono fun e w'' ⟨c,he,hE⟩=>by subst he;exact hq c a w'' hd hE
   ·rw[if_neg him]at h1;unfold quietOp at h1;unfold wpOp;split
    ·rename_i ho;simp only[ho]at h1;exact wpAny_of_boom hq fuel _ _ h1
    ·rename_i o ho;simp only[ho]at h1;split
     ·rename_i hw;simp only[hw,if_true]at h1;obtain⟨v,hv,hk⟩:=h1;refine .inl ?_;unfold Oper.wp;rw[hv];exact wpAny_of_boom hq fuel _ _ hk
     ·rename_i hw;simp only[hw]at h1;exact wpAny_of_boom hq fuel _ _ h1⟩
def callB (P:Program)(g:FuncId)(args:List Value)(w:World)(E:List PanicEntry→World→Prop)(_:Ph E):Prop:=(callFunc g args.toArray).run P w=.ok (.enter g args.toArray) w∧Calls P g args.toArray w fun e w''=>∃c,e=.panicked c∧E c w''
def boomK (P:Program)(o:Oper)(t:Fr)(w:World)(E:List PanicEntry→World→Prop)(_:Ph (o,E)):Prop:=match o.guard,o.op with
 | none,.call { callee:=.value f,args,argTypes:=_ }=>(match ev t f with
  | .func (.func g) first cap=>callB P g (first.toList++args.toList.map (ev t)++cap.toList) w E .mk
  | _=>False)
 | _,_=>False
def vcBoom (P:Program)(ops:List Oper)(E:List PanicEntry→World→Prop):List Unit→(l:List Oper)→Fr→World→Ph (ops,E,l)→Prop
 | [],o::_,t,w,_=>boomK P o t w E .mk
 | _::n,o::r,t,w,_=>chain P o=false∧match o.guard with
  | none=>mixK P o t w (·=w) (fun v _=>vcBoom P ops E n r (put t o.dst v) w .mk) .mk
  | some (j,want)=>guardK (slotOf ops j) want t (fun t'=>mixK P o t' w (·=w) (fun v _=>vcBoom P ops E n r (put t' o.dst v) w .mk) .mk) (fun t'=>vcBoom P ops E n r (put t' o.dst undef) w .mk) .mk
 | _,[],_,_,_=>False
theorem callB_of {g:FuncId}{args:List Value}{R:VK}{E':List PanicEntry→World→Prop}{p}(h:Fun2 P g args w R E')(hR:∀v w',¬R v w')(k:∀c w',E' c w'→E c w'):callB P g args w E p :=
 ⟨h.1,h.2.mono fun e w' he=>by cases e<;>first|exact absurd he (hR _ _)|exact⟨_,rfl,k _ _ he⟩|exact he.elim⟩
theorem quietOp_of_mixKN {ops:List Oper}{i:Nat}{o:Oper}{t:Fr}{K:VK}{N:Act→Prop}(hi:ops[i]?=some o)(hw:Region.wanted o (yielded ops.toArray t.toArray)=true)(hc:chain P o=false)
  (hn:∀v,K v w→N ⟨(put t o.dst v).toArray,[]⟩) (h:mixK P o t w (·=w) K .mk):quietOp P ops.toArray w i N ⟨t.toArray,[]⟩:=by
 unfold quietOp;simp only[List.getElem?_toArray,hi,hw,if_true,ev_eq];unfold mixK at h;split at h
 ·rename_i ty x ho;obtain⟨v,hr,_,hk⟩:=loadK_run ho h;exact⟨v,hr,by rw[put_eq];exact hn _ hk⟩
 ·rename_i x ho;unfold nilK at h;split at h
  ·rename_i a hx;refine⟨_,?_,by rw[put_eq];exact hn _ h⟩;unfold execOp;simp only[ho,hx];rfl
  ·exact h.elim
 ·simp only[hc,Bool.false_eq_true,if_false]at h;rcases pureK_ok h with h|⟨v,hg,hk⟩
  ·exact h.elim
  ·exact⟨v,hg w,by rw[put_eq];exact hn _ hk⟩
theorem boomOp_of {ops:List Oper}{m:Nat}{o:Oper}{t:Fr}(hi:ops[m]?=some o)(h:boomK P o t w E .mk):boomOp P ops.toArray w m E ⟨t.toArray,[]⟩:=by
 unfold boomK at h;split at h
 ·rename_i f args aty hg ho;split at h
  ·rename_i g first cap hf
   refine⟨rfl,o,by simpa using hi,by simp[Region.wanted,hg],g,_,w,?_,h.2⟩;rw[ev_eq];unfold execOp;have e:(first.toList++args.toList.map (ev t)++cap.toList).toArray=first++args.map (ev t)++cap:=by apply Array.ext';simp
   have h1:=h.1;rw[e]at h1 ⊢
   simp only[ho,resolve,hf,Deferred.ofValue,Sem.run_bind,Sem.run_pure,Result.andThen_ok,invoke];exact h1
  ·exact h.elim
 ·exact h.elim
theorem boomLex_of {ops:List Oper}{m:Nat}:∀(n:List Unit) (k:Nat) (l:List Oper) (t:Fr),k+n.length=m→(∀j,l[j]?=ops[k+j]?)→vcBoom P ops E n l t w .mk→boomLex P ops.toArray w m E (List.range' k n.length) ⟨t.toArray,[]⟩
 | [],k,[],t,hk,hl,h=>h.elim
 | [],k,o::r,t,hk,hl,h=>boomOp_of (by have:=hl 0;simpa[←hk] using this.symm) h
 | _::n,k,[],t,hk,hl,h=>h.elim
 | _::n,k,o::r,t,hk,hl,h=>by
  have h0:ops[k]?=some o:=by simpa using(hl 0).symm
  have ih:=fun t=>boomLex_of (m:=m) n (k+1) r t (by rw[List.length_cons]at hk;omega) (fun j=>by have:=hl (j+1);simpa[Nat.add_assoc,Nat.add_comm 1 j] using this);simp only[List.length_cons,List.range'_succ,boomLex];obtain⟨hc,h⟩:=h;split at h
  ·rename_i hg;exact quietOp_of_mixKN h0 (by simp[Region.wanted,hg]) hc (fun v hk=>ih _ hk) h
  ·rename_i j want hg;rcases guard_cases hg h with ⟨hw,hh⟩|⟨hw,hh⟩
   ·exact quietOp_of_mixKN h0 hw hc (fun v hk=>ih _ hk) hh
   ·unfold quietOp;simp only[List.getElem?_toArray,h0,hw,Bool.false_eq_true,if_false];rw[put_eq];exact ih _ hh
theorem wpL_boom {id:Nat}{l:List Oper}{t:Fr}{Q:EP}{p}(m:List Unit)(hm:P.follows .mixedOrders=true)(hB:boomB P l.toArray m.length=true)(hq:∀c t w',E c w'→Q (.panic c) t w')
  (h:vcBoom P l E m l t w.drew .mk):wpL P (.region id l.toArray true) Q t w p:=by
 unfold wpL;simp only[boomB,Bool.and_eq_true,decide_eq_true_eq]at hB;refine wp_region_any hm ?_;refine wpAny_of_boom (E:=E) (m:=m.length) (fun c a w' hd hE=>⟨hd,hq c _ w' hE⟩) _ _ _ ?_;exact wpB_lex hB.1.1 m.length 0 _ _ _ (by omega) hB.1.2 hB.1.2 (fun j o _ hl=>by simp[Array.getElem?_replicate]at hl;split at hl<;>simp at hl) hB.2 (boomLex_of m 0 l t (by omega) (fun j=>by simp) h)
theorem vcBoom_zero (ops)(o:Oper)(r)(p)(t:Fr):vcBoom P ops E [] (o::r) t w p=boomK P o t w E .mk:=(rfl)
theorem vcBoom_plain (ops)(u:Unit)(n)(d op ty pos af r)(p)(t:Fr):vcBoom P ops E (u::n) (⟨d,op,ty,pos,af,none⟩::r) t w p=(chain P ⟨d,op,ty,pos,af,none⟩=false∧mixK P ⟨d,op,ty,pos,af,none⟩ t w (·=w) (fun v _=>vcBoom P ops E n r (put t d v) w .mk) .mk):=(rfl)
def funB (P:Program)(f:Value)(args:List Value)(w:World)(E:List PanicEntry→World→Prop)(_:Ph E):Prop:=match f with
 | .func (.func g) first cap=>callB P g (first.toList++args++cap.toList) w E .mk
 | _=>False
theorem boomK_call (d f)(args:List Operand)(aty ty pos af)(p)(t:Fr):boomK P ⟨d,.call { callee:=.value f,args:=args.toArray,argTypes:=aty },ty,pos,af,none⟩ t w E p=funB P (ev t f) (args.map (ev t)) w E .mk:=(rfl)
theorem funB_func (g:FuncId)(args:List Value)(p):funB P (.func (.func g) #[] #[]) args w E p=callB P g args w E .mk:=by
 show callB P g (#[].toList++args++#[].toList) w E .mk=_
 simp
end
section
variable {P:Program}
theorem ch_move (d x ty pos af g):chain P ⟨d,.move x,ty,pos,af,g⟩=false:=(rfl)
theorem ch_assign (d x ty pos af g):chain P ⟨d,.assign x,ty,pos,af,g⟩=false:=(rfl)
theorem ch_nil (d x ty pos af g):chain P ⟨d,.nilCheck x,ty,pos,af,g⟩=false:=(rfl)
theorem ch_load (d t x ty pos af g):chain P ⟨d,.load t x,ty,pos,af,g⟩=false:=(rfl)
theorem ch_fieldAddr (d t x f ty pos af g):chain P ⟨d,.fieldAddr t x f,ty,pos,af,g⟩=false:=(rfl)
end
attribute [push_cast] boomK_call funB_func vcBoom_zero vcBoom_plain ch_move ch_assign ch_nil ch_load ch_fieldAddr
end Go.Vc
end
section
namespace Go.Proofs.YtodeeahdhnjpkaaGreatDoor
open Go.Vc Go.Proofs Go.RowKit Cae
attribute [local irreducible] wpL callK valK unitK runK Fun Sl Vc.Own vc vcOps opK pureK
theorem und_wrong:(Tryz.prog.underlying 81).isSome=true:=by kernel_rfl
attribute [push_cast] und_wrong
def encTok (t:Cae.Tok):List Value:=[.int .i64 t.kind,str t.text,.int .i64 t.pos]
structure TL (l:List Cae.Tok):Prop where
 last:∃i e,l=i++[e]∧e.kind=5
 txt:∀t∈l,t.text.length≤1000000
 len:l.length≤900
 num:∀t∈l,t.kind=2→t.text≠[]∧∀c∈t.text,digitP c=true
theorem TL.cons {l:List Cae.Tok}(h:TL l):∃t r,l=t::r:=by
 obtain⟨i,e,rfl,_⟩:=h.last;cases i with
 | nil=>exact⟨e,[],rfl⟩
 | cons x i=>exact⟨x,i++[e],rfl⟩
theorem TL.tail {t:Cae.Tok}{r:List Cae.Tok}(h:TL (t::r))(h5:t.kind≠5):TL r:=by
 obtain⟨i,e,he,h5'⟩:=h.last;refine⟨?_,fun x hx=>h.txt x (List.mem_cons_of_mem _ hx),by have:=h.len;rw[List.length_cons]at this;omega,fun x hx=>h.num x (List.mem_cons_of_mem _ hx)⟩;cases i with
 | nil=>simp at he;rw[he.1]at h5;exact absurd h5' h5
 | cons x i=>simp at he;exact⟨i,e,he.2,h5'⟩
structure PS (pb B:Nat)(w:World)(l:List Cae.Tok):Prop where
 st:∃v,Blk w pb 88 [v]∧Sl (fun b=>b=pb∨B≤b) 3 (En encTok) w v l
 lt:pb<B
 le:B≤w.heap.size
 tl:TL l
 db:Db w
 er:SErrs w
 gl:14≤pb
theorem SErrs.kept {X:Nat→Prop}{w w':World}(h:SErrs w)(hb:Kept X w w')(hX:∀i,i<14→¬X i):SErrs w':=by
 obtain⟨⟨t,p,h1⟩,⟨t',p',h2⟩⟩:=h;exact⟨⟨t,p,hb.cell h1 (hX _ (by decide))⟩,⟨t',p',hb.cell h2 (hX _ (by decide))⟩⟩
theorem Db.kept {X:Nat→Prop}{w w':World}(h:Db w)(hb:Kept X w w')(hX:∀i,i<14→¬X i):Db w':=hb.cell h (hX _ (by decide))
theorem PS.kept {pb B:Nat}{w w':World}{l:List Cae.Tok}{Y:Nat→Prop}(h:PS pb B w l)(hk:Kept Y w w')(hY:∀i,Y i→B≤i):PS pb B w' l:=by
 obtain⟨v,h1,h2⟩:=h.st;have hl:=h.lt;have hg:=h.gl;exact⟨⟨v,h1.kept hk (fun hh=>by have:=hY _ hh;omega),h2.kept hk (fun i hi=>.inr (hY i hi))⟩,h.lt,Nat.le_trans h.le hk.size,h.tl,h.db.kept hk (fun i hi hh=>by have:=hY _ hh;omega),h.er.kept hk (fun i hi hh=>by have:=hY _ hh;omega),h.gl⟩
theorem PS.below {pb B:Nat}{w w':World}{l:List Cae.Tok}(h:PS pb B w l)(hk:Below w.heap.size w w'):PS pb B w' l :=
 h.kept (Kept.of_below hk (X:=fun i=>w.heap.size≤i) (fun i h1 h2=>h1)) (fun i hi=>Nat.le_trans h.le hi)
theorem PS.hd {pb B:Nat}{w:World}{t:Cae.Tok}{r:List Cae.Tok}(h:PS pb B w (t::r)):∃b o c,Blk w pb 88 [.slice (some ⟨b,o,none⟩) (r.length+1) c]∧r.length+1≤c∧b≠pb ∧
  w.cell? ⟨b,o,none⟩=some (.int .i64 t.kind)∧w.cell? ⟨b,o+1,none⟩=some (str t.text)∧w.cell? ⟨b,o+2,none⟩=some (.int .i64 t.pos)∧cellsAt w ⟨b,o,none⟩ 0 3=some [.int .i64 t.kind,str t.text,.int .i64 t.pos]:=by
 obtain⟨v,h1,h2⟩:=h.st;obtain⟨a,c,rfl,hc⟩:=h2.shape;obtain⟨b,o,rfl,hb,hcell⟩:=h2.get (i:=0) (x:=t) rfl;refine⟨b,o,c,h1,hc,fun e=>hb (.inl e),?_,?_,?_,cellsAt_of (encTok t) 0 (fun j u hu=>by have:=hcell j u hu;simpa using this)⟩
 ·have:=hcell 0 _ rfl;simpa using this
 ·have:=hcell 1 _ rfl;simpa using this
 ·have:=hcell 2 _ rfl;simpa using this
theorem PS.pop {pb B b o c:Nat}{w w':World}{t:Cae.Tok}{r:List Cae.Tok}(h:PS pb B w (t::r))(hb:Blk w pb 88 [.slice (some ⟨b,o,none⟩) (r.length+1) c])(h5:t.kind≠5)
  (hp:Put w w' pb 88 [.slice (if (c:Int)=1 then some ⟨b,o,none⟩ else some ⟨b,o+3,none⟩) r.length (c-1)]):PS pb B w' r:=by
 have hl:=h.lt;have hg:=h.gl;have htl:=h.tl.tail h5;obtain⟨t2,r2,rfl⟩:=htl.cons;obtain⟨v,h1,h2⟩:=h.st;have e:v=.slice (some ⟨b,o,none⟩) ((t2::r2).length+1) c:=by
  have h1':w.heap[pb]?=_:=h1;have hb':w.heap[pb]?=_:=hb;rw[h1']at hb';simpa using hb'
 subst e;have hk:=hp.kept;have hc:(t2::r2).length+1≤c:=by
  obtain⟨a,c',he,hc⟩:=h2.shape;cases he;exact hc
 have hc1:¬(c:Int)=1:=by rw[List.length_cons]at hc;omega
 have hpb:=hp.blk;rw[if_neg hc1]at hpb;refine⟨⟨_,hpb,?_⟩,h.lt,by rw[hp.size];exact h.le,htl,h.db.kept hk (fun i hi hh=>by omega),h.er.kept hk (fun i hi hh=>by omega),h.gl⟩;unfold Sl at h2 ⊢
 obtain⟨a,c',he,hc',hall⟩:=h2;cases he;refine⟨some ⟨b,o+3,none⟩,c-1,rfl,by omega,fun i x hx=>?_⟩;obtain⟨b',o',cs,ha,hX,hcs,hcell,hr⟩:=hall (i+1) x (by simpa using hx);cases ha;refine⟨b,o+3,cs,rfl,hX,hcs,fun j u hu=>?_,hr⟩
 have:=hcell j u hu;rw[show o+(i+1)*3+j=o+3+i*3+j by omega]at this
 exact hk.cell this (fun hh=>hX (.inl hh))
theorem slice1 {e e':TypeId}{b o n c:Nat}{kk:IntKind}{L:VP}{other:Prop}(p):sliceK (some (.slice e)) (some (e',3)) (.slice (some ⟨b,o,none⟩) (n+1) c) (some (.int kk 1)) none none L other p=((1≤n+1∧n+1≤c)∧L (.slice (if (c:Int)=1 then some ⟨b,o,none⟩ else some ⟨b,o+3,none⟩) n (c-1))):=by
 simp only[sliceK,natAt,add_lit,Option.map_some];apply propext;constructor
 ·rintro⟨h1,h2⟩;refine⟨by omega,?_⟩;have e1:((n+1:Nat):Int).toNat-(1:Int).toNat=n:=by omega
  have e2:c-(1:Int).toNat=c-1:=by omega
  rw[e1,e2]at h2;exact h2
 ·rintro⟨h1,h2⟩;refine⟨by omega,?_⟩;have e1:((n+1:Nat):Int).toNat-(1:Int).toNat=n:=by omega
  have e2:c-(1:Int).toNat=c-1:=by omega
  rw[e1,e2];exact h2
def Thr (sz:Nat)(w:World)(c:List PanicEntry)(e pos:Nat):Prop:=∃b,sz≤b∧c=[{ v:=.iface 81 (.agg #[.iface 96 (.pointer (some ⟨b,0,none⟩))]),recovered:=false }]∧Blk w b 97 [.int .i64 e,.int .i64 pos]
theorem Thr.mono {sz sz':Nat}{w:World}{c:List PanicEntry}{e pos:Nat}(h:Thr sz w c e pos)(hs:sz'≤sz):Thr sz' w c e pos:=by
 obtain⟨b,h1,h2,h3⟩:=h;exact⟨b,by omega,h2,h3⟩
def PRes {α:Type}(pb B:Nat)(w:World)(l:List Cae.Tok)(p:Pa α)(V:World→Value→α→Prop):VK:=fun r w'=>∃x l',p l=.ok (x,l')∧V w' r x∧PS pb B w' l'∧Kept (·=pb) w w'
def PThr {α:Type}(pb:Nat)(w:World)(l:List Cae.Tok)(p:Pa α):List PanicEntry→World→Prop:=fun c w'=>∃e pos,p l=.error (e,pos)∧Thr w.heap.size w' c e pos∧Kept (·=pb) w w'
def Pc {α:Type}(f:FuncId)(args:List Value)(pb B:Nat)(w:World)(l:List Cae.Tok)(p:Pa α)(V:World→Value→α→Prop):Prop:=Fun2 Tryz.prog f args w (PRes pb B w l p V) (PThr pb w l p)
theorem fail_c (e:Nat){pb B:Nat}{w:World}{l:List Cae.Tok}(h:PS pb B w l):Fun2 Tryz.prog 33 [.pointer (some ⟨pb,0,none⟩),.int .i64 (e:Int)] w (fun _ _=>False) (fun c w'=>Thr w.heap.size w' c e (Cae.hd l).pos∧Below w.heap.size w w'):=by
 obtain⟨t,r,rfl⟩:=h.tl.cons;obtain⟨b,o,c,hB,hc,hne,c0,c1,c2,c3⟩:=h.hd;have cb:w.cell? ⟨pb,0,none⟩=some (.slice (some ⟨b,o,none⟩) (r.length+1) c):=hB.cell rfl;refine fun2_of_vc Tryz.func33 rfl (by kernel_rfl) [] rfl ?_;push_cast -dsimp(maxSteps:=4000000) [Tryz.ntmps33];push_cast -dsimp[cb,c2];refine⟨by omega,boxK_of ?_⟩;intro w' hw';have hB2:Blk w' w.heap.size 97 [.int .i64 e,.int .i64 t.pos]:=hw'.blk;have hbb:=hw'.below;push_cast -dsimp;refine panicK ?_;push_cast -dsimp;exact⟨⟨_,Nat.le_refl _,rfl,hB2⟩,hbb⟩
theorem see_c (s:List UInt8){pb B:Nat}{w:World}{l:List Cae.Tok}(h:PS pb B w l):Fun Tryz.prog 56 [.pointer (some ⟨pb,0,none⟩),str s] w fun r w'=>r=.bool (seeP s l)∧w'=w:=by
 obtain⟨t,r,rfl⟩:=h.tl.cons;obtain⟨b,o,c,hB,hc,hne,c0,c1,c2,c3⟩:=h.hd;have cb:w.cell? ⟨pb,0,none⟩=some (.slice (some ⟨b,o,none⟩) (r.length+1) c):=hB.cell rfl;have hs:seeP s (t::r)=(t.kind != 5 && t.text == s):=rfl;refine fun_of_vc Tryz.func56 rfl (by kernel_rfl) [4] rfl ?_;push_cast -dsimp(maxSteps:=4000000) [Tryz.ntmps56];push_cast -dsimp[cb,c0,c1];refine⟨by omega,fun h5=>⟨by omega,?_⟩,fun h5=>?_⟩
 ·rw[hs];have h5':t.kind≠5:=fun e=>h5 (by omega);congr 1;by_cases he:t.text=s<;>simp[he,h5']
 ·rw[hs];have h5':t.kind=5:=by omega
  simp[h5']
theorem popP_cons {t:Cae.Tok}{r:List Cae.Tok}(h:t.kind≠5):popP (t::r)=.ok ((),r):=by simp[popP,h]
theorem seeP_kind {s:List UInt8}{t:Cae.Tok}{r:List Cae.Tok}(h:seeP s (t::r)=true):t.kind≠5:=by
 have:(t.kind != 5 && t.text == s)=true:=h;simp at this;exact this.1
def Took (s:List UInt8)(pb B:Nat)(w:World)(l:List Cae.Tok):VK:=fun r w'=>(seeP s l=true∧r=.bool true∧∃t r',l=t::r'∧t.kind≠5∧PS pb B w' r'∧Kept (·=pb) w w'∧w'.heap.size=w.heap.size)∨(seeP s l=false∧r=.bool false∧w'=w)
theorem take_c (s:List UInt8){pb B:Nat}{w:World}{l:List Cae.Tok}(h:PS pb B w l):Fun Tryz.prog 60 [.pointer (some ⟨pb,0,none⟩),str s] w (Took s pb B w l):=by
 obtain⟨t,r,rfl⟩:=h.tl.cons;obtain⟨b,o,c,hB,hc,hne,c0,c1,c2,c3⟩:=h.hd;have cb:w.cell? ⟨pb,0,none⟩=some (.slice (some ⟨b,o,none⟩) (r.length+1) c):=hB.cell rfl;refine fun_of_vc Tryz.func60 rfl (by kernel_rfl) [4] rfl ?_;push_cast -dsimp(maxSteps:=4000000) [Tryz.ntmps60];refine callK_of (see_c s h) ?_;rintro _ _ ⟨rfl,rfl⟩;cases hs:seeP s (t::r) with
 | false =>
  push_cast -dsimp;exact .inr ⟨hs,rfl,rfl⟩
 | true =>
  have h5:=seeP_kind hs;push_cast -dsimp[cb,slice1];refine⟨by omega,?_⟩;refine storeK_of hB (by simp) rfl ?_;intro w' hw';have hps:=h.pop hB h5 hw';have hk:=hw'.kept;have hz:=hw'.size;push_cast -dsimp;exact .inl ⟨hs,rfl,t,r,rfl,h5,hps,hk,hz⟩
theorem must_c (s:List UInt8){pb B:Nat}{w:World}{l:List Cae.Tok}(h:PS pb B w l):Pc 57 [.pointer (some ⟨pb,0,none⟩),str s] pb B w l (mustP s) (fun _ r _=>r=.tuple #[]):=by
 refine fun2_of_vc Tryz.func57 rfl (by kernel_rfl) [] rfl ?_;push_cast -dsimp(maxSteps:=4000000) [Tryz.ntmps57];refine callK_of (take_c s h) ?_;rintro _ w1 hT;rcases hT with ⟨hs,rfl,t,r,rfl,h5,hps,hk,hz⟩|⟨hs,rfl,rfl⟩
 ·push_cast -dsimp;exact⟨(),r,by unfold mustP pif;rw[hs];exact popP_cons h5,rfl,hps,hk⟩
 ·push_cast -dsimp;refine callP_of (fail_c 3 h) (fun _ _ h=>h.elim) ?_;rintro c w2 ⟨ht,hb⟩;push_cast -dsimp;exact⟨3,_,by unfold mustP pif;rw[hs];rfl,ht,Kept.of_below hb (fun i h1 h2=>by omega)⟩
theorem deep_c (n:Int){pb B:Nat}{w:World}{l:List Cae.Tok}(h:PS pb B w l):Fun2 Tryz.prog 92 [.pointer (some ⟨pb,0,none⟩),.int .i64 n] w (fun r w'=>n≤8∧r=.tuple #[]∧w'=w) (fun c w'=>8<n∧Thr w.heap.size w' c 4 (Cae.hd l).pos∧Below w.heap.size w w'):=by
 refine fun2_of_vc Tryz.func92 rfl (by kernel_rfl) [] rfl ?_;push_cast -dsimp(maxSteps:=4000000) [Tryz.ntmps92];refine⟨fun h8=>?_,fun h8=>by omega⟩;refine callP_of (fail_c 4 h) (fun _ _ h=>h.elim) ?_;rintro c w2 ⟨ht,hb⟩;push_cast -dsimp;exact⟨h8,ht,hb⟩
def keptL:List (List UInt8×Value):=[([99,108,97,115,115],.int .i64 1),([98,114,101,97,107],.int .i64 1),([107,101,101,112],.int .i64 1),([101,108,115,101],.int .i64 1)]
theorem kept_c (s:List UInt8)(w:World):Fun Tryz.prog 118 [str s] w fun r w'=>r=.bool (keptP s)∧Below w.heap.size w w':=by
 refine fun_of_vc Tryz.func118 rfl (by kernel_rfl) [2] rfl ?_;push_cast -dsimp(maxSteps:=4000000) [Tryz.ntmps118];refine makeMapG (key:=fun l:List UInt8=>str l) ?_;intro w1 m1 b1 z1;push_cast -dsimp;refine updateG_new (kt:=9) (et:=3) (k:=[99,108,97,115,115]) (by kernel_rfl) (keyStr (by kernel_rfl)) m1 rfl rfl ?_;intro w2 m2 k2 z2;push_cast -dsimp;refine updateG_new (kt:=9) (et:=3) (k:=[98,114,101,97,107]) (by kernel_rfl) (keyStr (by kernel_rfl)) m2 rfl (by decide) ?_;intro w3 m3 k3 z3;push_cast -dsimp;refine updateG_new (kt:=9) (et:=3) (k:=[107,101,101,112]) (by kernel_rfl) (keyStr (by kernel_rfl)) m3 rfl (by decide) ?_;intro w4 m4 k4 z4;push_cast -dsimp;refine updateG_new (kt:=9) (et:=3) (k:=[101,108,115,101]) (by kernel_rfl) (keyStr (by kernel_rfl)) m4 rfl (by decide) ?_;intro w5 m5 k5 z5;have m6:MapG (fun l:List UInt8=>str l) w5 w.heap.size keptL:=m5;have hb:Below w.heap.size w w5:=b1.trans ((((k2.trans k3 (fun _ _ h=>h)).trans k4 (fun _ _ h=>h)).trans k5 (fun _ _ h=>h)).below (by omega) (fun i h=>by omega));push_cast -dsimp;refine lookupG (kt:=9) (et:=3) (z:=.int .i64 0) (c:=false) (k:=s) (by kernel_rfl) (keyStr (by kernel_rfl)) (by kernel_rfl) m6 ?_;cases hk:keptP s with
 | true =>
  have ha:(assocG s keptL).getD (.int .i64 0)=.int .i64 1:=by
   simp only[keptP,Bool.or_eq_true,beq_iff_eq]at hk;rcases hk with ((rfl|rfl)|rfl)|rfl<;>rfl
  rw[if_neg (by decide),ha];push_cast -dsimp;exact hb
 | false =>
  have ha:(assocG s keptL).getD (.int .i64 0)=.int .i64 0:=by
   simp only[keptP,Bool.or_eq_false_iff,beq_eq_false_iff_ne]at hk;simp[keptL,assocG,hk.1.1.1,hk.1.1.2,hk.1.2,hk.2]
  rw[if_neg (by decide),ha];push_cast -dsimp;exact⟨rfl,hb⟩
theorem named_c {pb B:Nat}{w:World}{l:List Cae.Tok}(h:PS pb B w l):Fun Tryz.prog 90 [.pointer (some ⟨pb,0,none⟩)] w fun r w'=>r=.bool (namedP l)∧Below w.heap.size w w':=by
 obtain⟨t,r,rfl⟩:=h.tl.cons;obtain⟨b,o,c,hB,hc,hne,c0,c1,c2,c3⟩:=h.hd;have cb:w.cell? ⟨pb,0,none⟩=some (.slice (some ⟨b,o,none⟩) (r.length+1) c):=hB.cell rfl;have hs:namedP (t::r)=(t.kind == 1 && !keptP t.text):=rfl;refine fun_of_vc Tryz.func90 rfl (by kernel_rfl) [2] rfl ?_;push_cast -dsimp(maxSteps:=4000000) [Tryz.ntmps90];push_cast -dsimp[cb,c0,c1];refine⟨by omega,fun h5=>⟨by omega,?_⟩,fun h5=>?_⟩
 ·refine callK_of (kept_c t.text w) ?_;rintro _ w1 ⟨rfl,hb⟩;have h5':t.kind=1:=by omega
  push_cast -dsimp;exact⟨by rw[hs,h5'];rfl,hb⟩
 ·have h5':t.kind≠1:=fun e=>h5 (by omega);exact⟨by rw[hs];simp[h5'],Below.refl _ _⟩
theorem name_c {pb B:Nat}{w:World}{l:List Cae.Tok}(h:PS pb B w l):Pc 58 [.pointer (some ⟨pb,0,none⟩)] pb B w l nameP (fun _ r n=>r=str n):=by
 obtain⟨t,r,rfl⟩:=h.tl.cons;obtain⟨b,o,c,hB,hc,hne,c0,c1,c2,c3⟩:=h.hd;have cb:w.cell? ⟨pb,0,none⟩=some (.slice (some ⟨b,o,none⟩) (r.length+1) c):=hB.cell rfl;have hn:namedP (t::r)=(t.kind == 1 && !keptP t.text):=rfl;refine fun2_of_vc Tryz.func58 rfl (by kernel_rfl) [.tmp 2] rfl ?_;push_cast -dsimp(maxSteps:=4000000) [Tryz.ntmps58];push_cast -dsimp[cb,Nat.zero_mul,Nat.add_zero,c3];refine⟨by omega,?_⟩;refine allocK (z:=[.int .i64 0,str [],.int .i64 0]) (by kernel_rfl) ?_;intro w1 hw1;have B1:=hw1.blk;have P1:=h.below hw1.below;have z1:=hw1.size;have b1:=hw1.below;push_cast -dsimp;refine storeAgg (xt:=91) (n:=3) (by kernel_rfl) B1 rfl (by decide) (by simp;exact⟨rfl,rfl,rfl⟩) ?_;intro w2 hw2;have B2:Blk w2 w.heap.size 91 [.int .i64 t.kind,str t.text,.int .i64 t.pos]:=hw2.blk;have P2:=P1.kept hw2.kept (fun i hi=>by have:=h.le;omega);have z2:=hw2.size;have b2:=b1.trans (hw2.kept.below (B:=w.heap.size) (by omega) (fun i h=>by omega));push_cast -dsimp;refine callK_of (named_c P2) ?_;rintro _ w3 ⟨rfl,b3⟩;have P3:=P2.below b3;have B3:=B2.below b3 (by omega);have b13:Below w.heap.size w w3:=b2.trans (b3.mono (by omega));have k13:Kept (·=pb) w w3:=Kept.of_below b13 (fun i h1 h2=>by omega);cases hnm:namedP (t::r) with
 | false =>
  push_cast -dsimp;refine callP_of (fail_c 3 P3) (fun _ _ h=>h.elim) ?_;rintro c w4 ⟨ht,hb⟩;push_cast -dsimp;have hz3:=b3.size;exact⟨3,_,by unfold nameP pif;rw[hnm];rfl,ht.mono (by omega),k13.trans (Kept.of_below hb (X:=(·=pb)) (fun i h1 h2=>by omega)) (fun i _ h=>h)⟩
 | true =>
  have d1:w3.cell? ⟨w.heap.size,1,none⟩=some (str t.text):=B3.cell rfl;push_cast -dsimp[d1];refine⟨fun hlong=>?_,fun hshort=>?_⟩
  ·refine callP_of (fail_c 4 P3) (fun _ _ h=>h.elim) ?_;rintro c w4 ⟨ht,hb⟩;push_cast -dsimp;have hz3:=b3.size;have hl:longP (t::r)=true:=decide_eq_true (show 10<t.text.length by omega)
   exact⟨4,_,by unfold nameP pif;rw[hnm,hl];rfl,ht.mono (by omega),k13.trans (Kept.of_below hb (X:=(·=pb)) (fun i h1 h2=>by omega)) (fun i _ h=>h)⟩
  ·have hl:longP (t::r)=false:=decide_eq_false (show ¬10<t.text.length by omega)
   have h5:t.kind≠5:=by
    rw[hn]at hnm;simp at hnm;omega
   have hB3:=hB.kept (Kept.of_below b13 (X:=fun i=>w.heap.size≤i) (fun i h1 h2=>h1)) (by have:=h.lt;have:=h.le;omega);have cb3:w3.cell? ⟨pb,0,none⟩=some (.slice (some ⟨b,o,none⟩) (r.length+1) c):=hB3.cell rfl;push_cast -dsimp[cb3,slice1];refine⟨by omega,?_⟩;refine storeK_of hB3 (by simp) rfl ?_;intro w4 hw4;have P4:=P3.pop hB3 h5 hw4;have B4:=B3.kept hw4.kept (by have:=h.lt;have:=h.le;omega);have d4:w4.cell? ⟨w.heap.size,1,none⟩=some (str t.text):=B4.cell rfl;have k4:=k13.trans hw4.kept (fun i _ h=>h);push_cast -dsimp[d4];exact⟨t.text,r,by simp[nameP,pif,hnm,hl,Cae.pb,peek,popP,pr,h5,Cae.hd],rfl,P4,k4⟩
def KindV (X:Nat→Prop)(w:World):Value→KindP→Prop
 | v,.lit pos s=>∃b sv,v=.pointer (some ⟨b,0,none⟩)∧¬X b∧Blk w b 126 [.int .i64 1,.int .i64 pos,sv,str [],.pointer none,.pointer none]∧Sl X 2 (En encR) w sv s∧Arg sv
 | v,.ref pos n=>∃b,v=.pointer (some ⟨b,0,none⟩)∧¬X b∧Blk w b 126 [.int .i64 2,.int .i64 pos,.slice none 0 0,str n,.pointer none,.pointer none]
 | v,.not pos k=>∃b u,v=.pointer (some ⟨b,0,none⟩)∧¬X b∧Blk w b 126 [.int .i64 6,.int .i64 pos,.slice none 0 0,str [],u,.pointer none]∧KindV X w u k
 | v,.bin c pos k r=>∃b u x,v=.pointer (some ⟨b,0,none⟩)∧¬X b∧Blk w b 126 [.int .i64 c,.int .i64 pos,.slice none 0 0,str [],u,x]∧KindV X w u k∧KindV X w x r
theorem KindV.mono {X X' Y:Nat→Prop}{w w':World}(hk:Kept Y w w')(hY:∀i,Y i→X i)(hX:∀i,X' i→X i):∀{k:KindP} {v:Value},KindV X w v k→KindV X' w' v k
 | .lit pos s,v,⟨b,sv,hv,hb,hB,hs,ha⟩=>⟨b,sv,hv,fun hh=>hb (hX b hh),hB.kept hk (fun hh=>hb (hY b hh)),(hs.kept hk hY).weaken hX,ha⟩
 | .ref pos n,v,⟨b,hv,hb,hB⟩=>⟨b,hv,fun hh=>hb (hX b hh),hB.kept hk (fun hh=>hb (hY b hh))⟩
 | .not pos k,v,⟨b,u,hv,hb,hB,h⟩=>⟨b,u,hv,fun hh=>hb (hX b hh),hB.kept hk (fun hh=>hb (hY b hh)),h.mono hk hY hX⟩
 | .bin c pos k r,v,⟨b,u,x,hv,hb,hB,h,h'⟩=>⟨b,u,x,hv,fun hh=>hb (hX b hh),hB.kept hk (fun hh=>hb (hY b hh)),h.mono hk hY hX,h'.mono hk hY hX⟩
theorem KindV.below {X:Nat→Prop}{w w':World}{k:KindP}{v:Value}(h:KindV X w v k)(hb:Below w.heap.size w w'):KindV X w' v k:=by
 induction k generalizing v with
 | lit pos s=>obtain⟨b,sv,hv,hx,hB,hs,ha⟩:=h;exact⟨b,sv,hv,hx,hB.below hb hB.lt,hs.below hb,ha⟩
 | ref pos n=>obtain⟨b,hv,hx,hB⟩:=h;exact⟨b,hv,hx,hB.below hb hB.lt⟩
 | not pos k ih=>obtain⟨b,u,hv,hx,hB,hs⟩:=h;exact⟨b,u,hv,hx,hB.below hb hB.lt,ih hs⟩
 | bin c pos k r ih ih'=>obtain⟨b,u,x,hv,hx,hB,hs,hs'⟩:=h;exact⟨b,u,x,hv,hx,hB.below hb hB.lt,ih hs,ih' hs'⟩
theorem Sl.top {α:Type}{X:Nat→Prop}{k:Nat}{R:List Value→α→Prop}{w:World}{v:Value}{l:List α}(hk:0<k)(h:Sl X k R w v l):Sl (fun b=>X b∨w.heap.size≤b) k R w v l:=by
 unfold Sl at h ⊢
 obtain⟨a,c,rfl,hc,h⟩:=h;refine⟨a,c,rfl,hc,fun i x hx=>?_⟩;obtain⟨b,o,cs,ha,hb,hcs,hcell,hr⟩:=h i x hx;refine⟨b,o,cs,ha,fun hh=>?_,hcs,hcell,hr⟩;rcases hh with hh|hh
 ·exact hb hh
 ·obtain⟨u,hu⟩:∃u,cs[0]?=some u:=⟨cs[0]'(by omega),List.getElem?_eq_getElem (by omega)⟩
  have:=World.block_lt_of_cell? w _ (hcell 0 u hu);simp at this;omega
theorem KindV.top {X:Nat→Prop}{w:World}{k:KindP}{v:Value}(h:KindV X w v k):KindV (fun b=>X b∨w.heap.size≤b) w v k:=by
 induction k generalizing v with
 | lit pos s=>obtain⟨b,sv,hv,hx,hB,hs,ha⟩:=h;exact⟨b,sv,hv,fun hh=>hh.elim hx (fun hh=>by have:=hB.lt;omega),hB,Sl.top (by decide) hs,ha⟩
 | ref pos n=>obtain⟨b,hv,hx,hB⟩:=h;exact⟨b,hv,fun hh=>hh.elim hx (fun hh=>by have:=hB.lt;omega),hB⟩
 | not pos k ih=>obtain⟨b,u,hv,hx,hB,hs⟩:=h;exact⟨b,u,hv,fun hh=>hh.elim hx (fun hh=>by have:=hB.lt;omega),hB,ih hs⟩
 | bin c pos k r ih ih'=>obtain⟨b,u,x,hv,hx,hB,hs,hs'⟩:=h;exact⟨b,u,x,hv,fun hh=>hh.elim hx (fun hh=>by have:=hB.lt;omega),hB,ih hs,ih' hs'⟩
theorem KindV.ptr {X:Nat→Prop}{w:World}{k:KindP}{v:Value}(h:KindV X w v k):∃b,v=.pointer (some ⟨b,0,none⟩)∧b<w.heap.size:=by
 cases k with
 | lit pos s=>obtain⟨b,sv,hv,hx,hB,hs⟩:=h;exact⟨b,hv,hB.lt⟩
 | ref pos n=>obtain⟨b,hv,hx,hB⟩:=h;exact⟨b,hv,hB.lt⟩
 | not pos k=>obtain⟨b,u,hv,hx,hB,hs⟩:=h;exact⟨b,hv,hB.lt⟩
 | bin c pos k r=>obtain⟨b,u,x,hv,hx,hB,hs,hs'⟩:=h;exact⟨b,hv,hB.lt⟩
def lenAt (w:World)(pb:Nat):Nat:=match w.cell? ⟨pb,0,none⟩ with
 | some (.slice _ n _)=>n
 | _=>0
theorem PS.len {pb B:Nat}{w:World}{l:List Cae.Tok}(h:PS pb B w l):lenAt w pb=l.length:=by
 obtain⟨v,h1,h2⟩:=h.st;obtain⟨a,c,rfl,_⟩:=h2.shape;unfold lenAt;rw[h1.cell (o:=0) rfl]
def OneC (d:Nat):Prop:=∀(n:Int),0≤n→n+(d:Int)=9→∀(pb B:Nat) (w:World) (l:List Cae.Tok),PS pb B w l→Pc 91 [.pointer (some ⟨pb,0,none⟩),.int .i64 n] pb B w l (oneP d) (fun w' r k=>KindV (·<w.heap.size) w' r k)
def KindC (d:Nat):Prop:=∀(n:Int),0≤n→n+(d:Int)=9→∀(pb B:Nat) (w:World) (l:List Cae.Tok),PS pb B w l→Pc 59 [.pointer (some ⟨pb,0,none⟩),.int .i64 n] pb B w l (kindP d) (fun w' r k=>KindV (·<w.heap.size) w' r k)
theorem kind_of (d:Nat)(hone:OneC d):KindC d:=by
 intro n hn0 hn pb B w l0 h0;obtain⟨t,r,rfl⟩:=h0.tl.cons;obtain⟨b,o,c,hB,hc,hne,c0,c1,c2,c3⟩:=h0.hd;have cb:w.cell? ⟨pb,0,none⟩=some (.slice (some ⟨b,o,none⟩) (r.length+1) c):=hB.cell rfl;have hl0:∃l0,l0=t::r:=⟨_,rfl⟩;obtain⟨l0,hl0⟩:=hl0;rw[←hl0]at h0 ⊢
 have hhd:Cae.hd l0=t:=by rw[hl0];rfl
 refine fun2_of_vc Tryz.func59 rfl (by kernel_rfl) [.tmp 4] rfl ?_;push_cast -dsimp(maxSteps:=4000000) [Tryz.ntmps59];push_cast -dsimp[cb,c2];refine⟨by omega,?_⟩;refine callP_of (hone n hn0 hn pb B w l0 h0) ?_ ?_
 ·rintro v1 w1 ⟨k0,l1,e1,V1,P1,hk1⟩;have hstart:kindP d l0=kindLoop (oneP d) t.pos 1000 k0 l1:=by
   unfold kindP kindW;rw[pb_of (p:=peek) (x:=Cae.hd l0) (l1:=l0) rfl,pb_of e1,hhd]
  push_cast -dsimp;refine wpL_loop [4,6,7,18,19,20,21,22,23,24,25,26,27,28,29,30,31,32,33,34,35] (fun z w'=>∃(m:Nat) (k1:KindP) (l1:List Cae.Tok),kindLoop (oneP d) t.pos m k1 l1=kindP d l0∧l1.length<m∧KindV (·<w.heap.size) w' (z 6) k1∧PS pb B w' l1∧Kept (·=pb) w w') (fun z w'=>lenAt w' pb) ?_ ?_
  ·have hlt:l1.length<1000:=by have:=P1.tl.len;omega
   exact⟨1000,k0,l1,hstart.symm,hlt,V1,P1,hk1⟩
  rintro z w' ⟨m,k1,l1,hm2,hm,V1,hP1,hkw⟩;obtain⟨kb,hz6,hkb⟩:=V1.ptr;rw[hz6]at V1;obtain⟨t1,r1,el1⟩:=hP1.tl.cons;push_cast -dsimp;refine callK_of (take_c [124] hP1) ?_;rintro _ w2 hT;rcases hT with ⟨hs1,rfl,t1',r1',el1',h51,P2,kt,hz⟩|⟨hs1,rfl,hww⟩
  ·obtain⟨rfl,rfl⟩:t1=t1'∧r1=r1':=by rw[el1]at el1';exact List.cons.inj el1'
   rw[el1]at hs1
   ·have hbin:binP l1=.ok (3,r1):=by
     rw[el1];simp[binP,pif,hs1,Cae.pb,popP,pr,h51]
    push_cast -dsimp;refine callP_of (hone n hn0 hn pb B w2 r1 P2) ?_ ?_
    ·rintro u w3 ⟨k2,l2,e2,V2,P3,k3⟩;obtain⟨ub,rfl,hub⟩:=V2.ptr;push_cast -dsimp[hz6];refine boxK_of ?_;intro w4 hw4;have B4:Blk w4 w3.heap.size 126 [.int .i64 (3:Nat),.int .i64 t.pos,.slice none 0 0,str [],.pointer (some ⟨kb,0,none⟩),.pointer (some ⟨ub,0,none⟩)]:=hw4.blk;have P4:=P3.below hw4.below;have z4:=hw4.size;have k14:Kept (·=pb) w' w4:=(kt.trans k3 (fun i _ h=>h)).trans (Kept.of_below hw4.below (X:=(·=pb)) (fun i h1 h2=>by omega)) (fun i _ h=>h);have z14:=k14.size;have zw:=hkw.size;have hKa:KindV (·<w.heap.size) w4 (.pointer (some ⟨kb,0,none⟩)) k1:=V1.mono k14 (fun i h=>by have:=hP1.lt;have:=h0.le;omega) (fun _ h=>h);have hKb:KindV (·<w.heap.size) w4 (.pointer (some ⟨ub,0,none⟩)) k2:=V2.mono (Kept.of_below hw4.below (X:=fun i=>False) (fun i h1 h2=>by omega)) (fun _ h=>h.elim) (fun i h=>by have:=kt.size;omega);have hnext:kindLoop (oneP d) t.pos (m-1) (.bin 3 t.pos k1 k2) l2=kindP d l0:=by
      rw[←hm2];obtain⟨m',rfl⟩:∃m',m=m'+1:=⟨m-1,by omega⟩;rw[kindLoop,pb_of hbin,if_neg (by decide),pb_of e2];rfl
     have hl2:l2.length≤r1.length:=by
      obtain⟨pre,_,e,_⟩:=lo_one d _ _ _ e2;rw[e,List.length_append];omega
     have hl1:l1.length=r1.length+1:=by rw[el1,List.length_cons]
     have hlen4:=P4.len;have hlen1:=hP1.len;push_cast -dsimp;refine⟨⟨m-1,_,l2,hnext,by omega,?_,P4,hkw.trans k14 (fun i _ h=>h)⟩,by rw[hlen4,hlen1];omega⟩;exact⟨w3.heap.size,_,_,rfl,by have:=kt.size;have:=k3.size;omega,B4,hKa,hKb⟩
    ·rintro c w3 ⟨e,pos,he,ht,hk3⟩;push_cast -dsimp;refine⟨e,pos,?_,ht.mono (by have:=kt.size;have:=hkw.size;omega),(hkw.trans kt (fun i _ h=>h)).trans hk3 (fun i _ h=>h)⟩;rw[←hm2];obtain⟨m',rfl⟩:∃m',m=m'+1:=⟨m-1,by omega⟩;rw[kindLoop,pb_of hbin,if_neg (by decide)];unfold Cae.pb;rw[he]
  ·obtain rfl:w'=w2:=hww.symm;rw[el1]at hs1;push_cast -dsimp;refine callK_of (take_c [38] hP1) ?_;rintro _ w2 hT;rcases hT with ⟨hs2,rfl,t1',r1',el1',h51,P2,kt,hz⟩|⟨hs2,rfl,hww⟩
   ·obtain⟨rfl,rfl⟩:t1=t1'∧r1=r1':=by rw[el1]at el1';exact List.cons.inj el1'
    rw[el1]at hs2
    ·have hbin:binP l1=.ok (4,r1):=by
      rw[el1];simp[binP,pif,hs1,hs2,Cae.pb,popP,pr,h51]
     push_cast -dsimp;refine callP_of (hone n hn0 hn pb B w2 r1 P2) ?_ ?_
     ·rintro u w3 ⟨k2,l2,e2,V2,P3,k3⟩;obtain⟨ub,rfl,hub⟩:=V2.ptr;push_cast -dsimp[hz6];refine boxK_of ?_;intro w4 hw4;have B4:Blk w4 w3.heap.size 126 [.int .i64 (4:Nat),.int .i64 t.pos,.slice none 0 0,str [],.pointer (some ⟨kb,0,none⟩),.pointer (some ⟨ub,0,none⟩)]:=hw4.blk;have P4:=P3.below hw4.below;have z4:=hw4.size;have k14:Kept (·=pb) w' w4:=(kt.trans k3 (fun i _ h=>h)).trans (Kept.of_below hw4.below (X:=(·=pb)) (fun i h1 h2=>by omega)) (fun i _ h=>h);have z14:=k14.size;have zw:=hkw.size;have hKa:KindV (·<w.heap.size) w4 (.pointer (some ⟨kb,0,none⟩)) k1:=V1.mono k14 (fun i h=>by have:=hP1.lt;have:=h0.le;omega) (fun _ h=>h);have hKb:KindV (·<w.heap.size) w4 (.pointer (some ⟨ub,0,none⟩)) k2:=V2.mono (Kept.of_below hw4.below (X:=fun i=>False) (fun i h1 h2=>by omega)) (fun _ h=>h.elim) (fun i h=>by have:=kt.size;omega);have hnext:kindLoop (oneP d) t.pos (m-1) (.bin 4 t.pos k1 k2) l2=kindP d l0:=by
       rw[←hm2];obtain⟨m',rfl⟩:∃m',m=m'+1:=⟨m-1,by omega⟩;rw[kindLoop,pb_of hbin,if_neg (by decide),pb_of e2];rfl
      have hl2:l2.length≤r1.length:=by
       obtain⟨pre,_,e,_⟩:=lo_one d _ _ _ e2;rw[e,List.length_append];omega
      have hl1:l1.length=r1.length+1:=by rw[el1,List.length_cons]
      have hlen4:=P4.len;have hlen1:=hP1.len;push_cast -dsimp;refine⟨⟨m-1,_,l2,hnext,by omega,?_,P4,hkw.trans k14 (fun i _ h=>h)⟩,by rw[hlen4,hlen1];omega⟩;exact⟨w3.heap.size,_,_,rfl,by have:=kt.size;have:=k3.size;omega,B4,hKa,hKb⟩
     ·rintro c w3 ⟨e,pos,he,ht,hk3⟩;push_cast -dsimp;refine⟨e,pos,?_,ht.mono (by have:=kt.size;have:=hkw.size;omega),(hkw.trans kt (fun i _ h=>h)).trans hk3 (fun i _ h=>h)⟩;rw[←hm2];obtain⟨m',rfl⟩:∃m',m=m'+1:=⟨m-1,by omega⟩;rw[kindLoop,pb_of hbin,if_neg (by decide)];unfold Cae.pb;rw[he]
   ·obtain rfl:w'=w2:=hww.symm;rw[el1]at hs2;push_cast -dsimp;refine callK_of (take_c [45] hP1) ?_;rintro _ w2 hT;rcases hT with ⟨hs3,rfl,t1',r1',el1',h51,P2,kt,hz⟩|⟨hs3,rfl,hww⟩
    ·obtain⟨rfl,rfl⟩:t1=t1'∧r1=r1':=by rw[el1]at el1';exact List.cons.inj el1'
     rw[el1]at hs3
     ·have hbin:binP l1=.ok (5,r1):=by
       rw[el1];simp[binP,pif,hs1,hs2,hs3,Cae.pb,popP,pr,h51]
      push_cast -dsimp;refine callP_of (hone n hn0 hn pb B w2 r1 P2) ?_ ?_
      ·rintro u w3 ⟨k2,l2,e2,V2,P3,k3⟩;obtain⟨ub,rfl,hub⟩:=V2.ptr;push_cast -dsimp[hz6];refine boxK_of ?_;intro w4 hw4;have B4:Blk w4 w3.heap.size 126 [.int .i64 (5:Nat),.int .i64 t.pos,.slice none 0 0,str [],.pointer (some ⟨kb,0,none⟩),.pointer (some ⟨ub,0,none⟩)]:=hw4.blk;have P4:=P3.below hw4.below;have z4:=hw4.size;have k14:Kept (·=pb) w' w4:=(kt.trans k3 (fun i _ h=>h)).trans (Kept.of_below hw4.below (X:=(·=pb)) (fun i h1 h2=>by omega)) (fun i _ h=>h);have z14:=k14.size;have zw:=hkw.size;have hKa:KindV (·<w.heap.size) w4 (.pointer (some ⟨kb,0,none⟩)) k1:=V1.mono k14 (fun i h=>by have:=hP1.lt;have:=h0.le;omega) (fun _ h=>h);have hKb:KindV (·<w.heap.size) w4 (.pointer (some ⟨ub,0,none⟩)) k2:=V2.mono (Kept.of_below hw4.below (X:=fun i=>False) (fun i h1 h2=>by omega)) (fun _ h=>h.elim) (fun i h=>by have:=kt.size;omega);have hnext:kindLoop (oneP d) t.pos (m-1) (.bin 5 t.pos k1 k2) l2=kindP d l0:=by
        rw[←hm2];obtain⟨m',rfl⟩:∃m',m=m'+1:=⟨m-1,by omega⟩;rw[kindLoop,pb_of hbin,if_neg (by decide),pb_of e2];rfl
       have hl2:l2.length≤r1.length:=by
        obtain⟨pre,_,e,_⟩:=lo_one d _ _ _ e2;rw[e,List.length_append];omega
       have hl1:l1.length=r1.length+1:=by rw[el1,List.length_cons]
       have hlen4:=P4.len;have hlen1:=hP1.len;push_cast -dsimp;refine⟨⟨m-1,_,l2,hnext,by omega,?_,P4,hkw.trans k14 (fun i _ h=>h)⟩,by rw[hlen4,hlen1];omega⟩;exact⟨w3.heap.size,_,_,rfl,by have:=kt.size;have:=k3.size;omega,B4,hKa,hKb⟩
      ·rintro c w3 ⟨e,pos,he,ht,hk3⟩;push_cast -dsimp;refine⟨e,pos,?_,ht.mono (by have:=kt.size;have:=hkw.size;omega),(hkw.trans kt (fun i _ h=>h)).trans hk3 (fun i _ h=>h)⟩;rw[←hm2];obtain⟨m',rfl⟩:∃m',m=m'+1:=⟨m-1,by omega⟩;rw[kindLoop,pb_of hbin,if_neg (by decide)];unfold Cae.pb;rw[he]
    ·obtain rfl:w'=w2:=hww.symm;rw[el1]at hs3;push_cast -dsimp[hz6];refine⟨k1,l1,?_,V1,hP1,hkw⟩;rw[←hm2];obtain⟨m',rfl⟩:∃m',m=m'+1:=⟨m-1,by omega⟩;have hbin:binP l1=.ok (0,l1):=by
      rw[el1];simp[binP,pif,hs1,hs2,hs3,pr]
     rw[kindLoop,pb_of hbin,if_pos rfl];rfl
 ·rintro c w3 ⟨e,pos,he,ht,hk3⟩;push_cast -dsimp;refine⟨e,pos,?_,ht,hk3⟩;unfold kindP kindW;rw[pb_of (p:=peek) (x:=Cae.hd l0) (l1:=l0) rfl];unfold Cae.pb;rw[he]
theorem one_zero:OneC 0:=by
 intro n hn0 hn pb B w l h;refine fun2_of_vc Tryz.func91 rfl (by kernel_rfl) [.tmp 4] rfl ?_;push_cast -dsimp(maxSteps:=4000000) [Tryz.ntmps91];refine callP_of (deep_c n h) ?_ ?_
 ·rintro _ _ ⟨h8,rfl,rfl⟩;omega
 ·rintro c w' ⟨h8,ht,hb⟩;push_cast -dsimp;exact⟨4,_,rfl,ht,Kept.of_below hb (fun i h1 h2=>by omega)⟩
theorem one_succ (d:Nat)(ih:OneC d):OneC (d+1):=by
 have ihk:=kind_of d ih;intro n hn0 hn pb B w l0 h0;obtain⟨t,r,hl0⟩:=h0.tl.cons;have hhd:Cae.hd l0=t:=by rw[hl0];rfl
 have h0':=h0;rw[hl0]at h0';obtain⟨b,o,c,hB,hc,hne,c0,c1,c2,c3⟩:=h0'.hd;have cb:w.cell? ⟨pb,0,none⟩=some (.slice (some ⟨b,o,none⟩) (r.length+1) c):=hB.cell rfl;have hle:=h0.le;have hlt:=h0.lt;refine fun2_of_vc Tryz.func91 rfl (by kernel_rfl) [.tmp 4] rfl ?_;push_cast -dsimp(maxSteps:=4000000) [Tryz.ntmps91];refine callP_of (deep_c n h0) ?_ (fun c w' hh=>by have:=hh.1;omega);rintro _ w0 ⟨h8,rfl,hw0⟩;obtain rfl:w=w0:=hw0.symm;push_cast -dsimp[cb,c2];refine⟨by omega,boxK_of ?_⟩;intro w1 hw1;have B1:Blk w1 w.heap.size 126 [.int .i64 0,.int .i64 t.pos,.slice none 0 0,str [],.pointer none,.pointer none]:=hw1.blk;have P1:=h0.below hw1.below;have P1':=h0'.below hw1.below;have z1:=hw1.size;have k1:Kept (·=pb) w w1:=Kept.of_below hw1.below (fun i h1 h2=>by omega);obtain⟨b',o',c',hB',hc',hne',c0',c1',c2',c3'⟩:=P1'.hd;have cb':w1.cell? ⟨pb,0,none⟩=some (.slice (some ⟨b',o',none⟩) (r.length+1) c'):=hB'.cell rfl;have hunf:oneP (d+1) l0=pif (isKind 3) litP (pif (seeP [126]) (Cae.pb peek fun t=>Cae.pb popP fun _=>Cae.pb (oneP d) fun k=>pr (.not t.pos k))
  (pif (seeP [40]) (Cae.pb popP fun _=>Cae.pb (kindW (oneP d)) fun k=>Cae.pb (mustP [41]) fun _=>pr k)
   (Cae.pb peek fun t=>Cae.pb nameP fun n=>pr (.ref t.pos n)))) l0:=rfl
 have hpk:∀{β:Type} (q:Cae.Tok→Pa β),Cae.pb peek q l0=q t l0:=fun q=>by rw[pb_of (p:=peek) (x:=Cae.hd l0) (l1:=l0) rfl,hhd]
 push_cast -dsimp[cb',c0'];refine⟨by omega,fun h3=>?_,fun h3=>?_⟩
 ·have hk3:isKind 3 l0=true:=by
   have:t.kind=3:=by omega
   simp[isKind,hhd,this]
  have h5:t.kind≠5:=by omega
  push_cast -dsimp[cb',c1'];refine⟨by omega,?_⟩;refine callK_of (parse_c t.text (h0'.tl.txt t (by simp)) w1 P1.db P1.er) ?_;rintro rv w2 ⟨hR,b2⟩;have P2:=P1.below b2;have P2':=P1'.below b2;have B2:=B1.below b2 (by omega);have k2:Kept (·=pb) w w2:=k1.trans (Kept.of_below b2 (X:=(·=pb)) (fun i h1 h2=>by omega)) (fun i _ h=>h);have z2:=b2.size;rcases hR with ⟨v,s,rfl,ho,hpr⟩|⟨hno,rfl⟩
  ·have hset:=setP_of hpr;have hs0:=ho.sl;have ha0:Arg v:=ho.nilArg;obtain⟨va,vc,rfl,_⟩:=hs0.shape;push_cast -dsimp;refine storeK_of B2 (by simp) rfl ?_;intro w3 hw3;have B3:Blk w3 w.heap.size 126 [.int .i64 1,.int .i64 t.pos,.slice none 0 0,str [],.pointer none,.pointer none]:=hw3.blk;push_cast -dsimp;refine storeK_of B3 (by simp) rfl ?_;intro w4 hw4;have B4:Blk w4 w.heap.size 126 [.int .i64 1,.int .i64 t.pos,.slice va s.length vc,str [],.pointer none,.pointer none]:=hw4.blk;have k34:Kept (·=w.heap.size) w2 w4:=hw3.kept.trans hw4.kept (fun i _ h=>h);have P4':=P2'.kept k34 (fun i h=>by omega);have z4:=k34.size;have k4:Kept (·=pb) w w4:=k2.trans k34 (fun i h1 h2=>by omega);obtain⟨b4,o4,c4,hB4,hc4,hne4,_,_,_,_⟩:=P4'.hd;have cb4:w4.cell? ⟨pb,0,none⟩=some (.slice (some ⟨b4,o4,none⟩) (r.length+1) c4):=hB4.cell rfl;push_cast -dsimp[cb4,slice1];refine⟨by omega,?_⟩;refine storeK_of hB4 (by simp) rfl ?_;intro w5 hw5;have P5:=P4'.pop hB4 h5 hw5;have B5:=B4.kept hw5.kept (by omega);have k5:=k4.trans hw5.kept (fun i _ h=>h);have s5:Sl (·<w.heap.size) 2 (En encR) w5 (.slice va s.length vc) s:=((hs0.kept k34 (fun i h=>by omega)).kept hw5.kept (fun i h=>by omega)).weaken (fun i h=>by omega);push_cast -dsimp;refine⟨.lit t.pos s,r,?_,⟨_,_,rfl,by omega,B5,s5,ha0⟩,P5,k5⟩;rw[hunf];unfold pif;rw[hk3,if_pos rfl];unfold litP;rw[hpk,hset,hl0];simp[Cae.pb,popP,h5,pr]
  ·have hset:=setP_no hno;push_cast -dsimp;refine callP_of (fail_c 3 P2) (fun _ _ h=>h.elim) ?_;rintro c w3 ⟨ht,hb⟩;push_cast -dsimp;refine⟨3,_,?_,ht.mono (by omega),k2.trans (Kept.of_below hb (X:=(·=pb)) (fun i h1 h2=>by omega)) (fun i _ h=>h)⟩;rw[hunf];unfold pif;rw[hk3,if_pos rfl];unfold litP;rw[hpk,hset];rfl
 ·have hk3:isKind 3 l0=false:=by
   have:t.kind≠3:=fun e=>h3 (by omega);simp[isKind,hhd,this]
  refine callK_of (take_c [126] P1) ?_;rintro _ w2 hT;rcases hT with ⟨hs1,rfl,t1,r1,el1,h51,P2,kt,hz⟩|⟨hs1,rfl,hww⟩
  ·obtain⟨rfl,rfl⟩:t=t1∧r=r1:=by rw[hl0]at el1;exact List.cons.inj el1
   have B2:=B1.kept kt (by omega);have hpop:popP l0=.ok ((),r):=by rw[hl0];exact popP_cons h51
   have hred:oneP (d+1) l0=Cae.pb (oneP d) (fun k=>pr (.not t.pos k)) r:=by
    rw[hunf];unfold pif;rw[hk3,hs1,if_neg (by decide),if_pos rfl,hpk,pb_of hpop]
   push_cast -dsimp;refine⟨⟨by omega,by omega⟩,?_⟩;refine callP_of (ih (n+1) (by omega) (by omega) pb B w2 r P2) ?_ ?_
   ·rintro u w3 ⟨k,l3,e3,V3,P3,k3⟩;obtain⟨ub,rfl,hub⟩:=V3.ptr;have B3:=B2.kept k3 (by omega);push_cast -dsimp;refine storeK_of B3 (by simp) rfl ?_;intro w4 hw4;have B4:Blk w4 w.heap.size 126 [.int .i64 6,.int .i64 t.pos,.slice none 0 0,str [],.pointer none,.pointer none]:=hw4.blk;push_cast -dsimp;refine storeK_of B4 (by simp) rfl ?_;intro w5 hw5;have B5:Blk w5 w.heap.size 126 [.int .i64 6,.int .i64 t.pos,.slice none 0 0,str [],.pointer (some ⟨ub,0,none⟩),.pointer none]:=hw5.blk;have k35:Kept (·=w.heap.size) w3 w5:=hw4.kept.trans hw5.kept (fun i _ h=>h);have P5:=P3.kept k35 (fun i h=>by omega);have z3:=k3.size;have k5:Kept (·=pb) w w5:=((k1.trans kt (fun i _ h=>h)).trans k3 (fun i _ h=>h)).trans k35 (fun i h1 h2=>by omega);push_cast -dsimp;refine⟨.not t.pos k,l3,?_,⟨_,_,rfl,by omega,B5,V3.mono k35 (fun i h=>by omega) (fun i h=>by omega)⟩,P5,k5⟩;rw[hred,pb_of e3];rfl
   ·rintro c w3 ⟨e,pos,he,ht,hk⟩;push_cast -dsimp;refine⟨e,pos,?_,ht.mono (by omega),(k1.trans kt (fun i _ h=>h)).trans hk (fun i _ h=>h)⟩;rw[hred];unfold Cae.pb;rw[he]
  ·obtain rfl:w1=w2:=hww.symm;push_cast -dsimp;refine callK_of (take_c [40] P1) ?_;rintro _ w2 hT;rcases hT with ⟨hs2,rfl,t1,r1,el1,h51,P2,kt,hz⟩|⟨hs2,rfl,hww⟩
   ·obtain⟨rfl,rfl⟩:t=t1∧r=r1:=by rw[hl0]at el1;exact List.cons.inj el1
    have hpop:popP l0=.ok ((),r):=by rw[hl0];exact popP_cons h51
    have hred:oneP (d+1) l0=Cae.pb (kindP d) (fun k=>Cae.pb (mustP [41]) fun _=>pr k) r:=by
     rw[hunf];unfold pif;rw[hk3,hs1,hs2,if_neg (by decide),if_neg (by decide),if_pos rfl,pb_of hpop];rfl
    push_cast -dsimp;refine⟨⟨by omega,by omega⟩,?_⟩;refine callP_of (ihk (n+1) (by omega) (by omega) pb B w2 r P2) ?_ ?_
    ·rintro u w3 ⟨k,l3,e3,V3,P3,k3⟩;push_cast -dsimp;refine callP_of (must_c [41] P3) ?_ ?_
     ·rintro _ w4 ⟨_,l4,e4,rfl,P4,k4⟩;push_cast -dsimp;have z3:=k3.size;refine⟨k,l4,?_,V3.mono k4 (fun i h=>by omega) (fun i h=>by omega),P4,((k1.trans kt (fun i _ h=>h)).trans k3 (fun i _ h=>h)).trans k4 (fun i _ h=>h)⟩;rw[hred,pb_of e3,pb_of e4];rfl
     ·rintro c w4 ⟨e,pos,he,ht,hk⟩;push_cast -dsimp;have z3:=k3.size;refine⟨e,pos,?_,ht.mono (by omega),((k1.trans kt (fun i _ h=>h)).trans k3 (fun i _ h=>h)).trans hk (fun i _ h=>h)⟩;rw[hred,pb_of e3];unfold Cae.pb;rw[he]
    ·rintro c w3 ⟨e,pos,he,ht,hk⟩;push_cast -dsimp;refine⟨e,pos,?_,ht.mono (by omega),(k1.trans kt (fun i _ h=>h)).trans hk (fun i _ h=>h)⟩;rw[hred];unfold Cae.pb;rw[he]
   ·obtain rfl:w1=w2:=hww.symm;have hred:oneP (d+1) l0=Cae.pb nameP (fun n=>pr (.ref t.pos n)) l0:=by
     rw[hunf];unfold pif;rw[hk3,hs1,hs2,if_neg (by decide),if_neg (by decide),if_neg (by decide),hpk]
    push_cast -dsimp;refine callP_of (name_c P1) ?_ ?_
    ·rintro _ w3 ⟨nm,l3,e3,rfl,P3,k3⟩;have B3:=B1.kept k3 (by omega);push_cast -dsimp;refine storeK_of B3 (by simp) rfl ?_;intro w4 hw4;have B4:Blk w4 w.heap.size 126 [.int .i64 2,.int .i64 t.pos,.slice none 0 0,str [],.pointer none,.pointer none]:=hw4.blk;push_cast -dsimp;refine storeK_of B4 (by simp) rfl ?_;intro w5 hw5;have B5:Blk w5 w.heap.size 126 [.int .i64 2,.int .i64 t.pos,.slice none 0 0,str nm,.pointer none,.pointer none]:=hw5.blk;have k35:Kept (·=w.heap.size) w3 w5:=hw4.kept.trans hw5.kept (fun i _ h=>h);have P5:=P3.kept k35 (fun i h=>by omega);have z3:=k3.size;have k5:Kept (·=pb) w w5:=(k1.trans k3 (fun i _ h=>h)).trans k35 (fun i h1 h2=>by omega);push_cast -dsimp;refine⟨.ref t.pos nm,l3,?_,⟨_,rfl,by omega,B5⟩,P5,k5⟩;rw[hred,pb_of e3];rfl
    ·rintro c w3 ⟨e,pos,he,ht,hk⟩;push_cast -dsimp;refine⟨e,pos,?_,ht.mono (by omega),k1.trans hk (fun i _ h=>h)⟩;rw[hred];unfold Cae.pb;rw[he]
theorem one_c:∀d,OneC d
 | 0=>one_zero
 | d+1=>one_succ d (one_c d)
theorem kind_c (d:Nat):KindC d:=kind_of d (one_c d)
end Go.Proofs.YtodeeahdhnjpkaaGreatDoor
end
section
namespace Cae
theorem fold_le (l:List UInt8):∀a:Nat,a≤l.foldl (fun m b=>10*m+(b.toNat-48)) a:=by
 induction l with
 | nil=>exact fun a=>Nat.le_refl _
 | cons b l ih=>exact fun a=>Nat.le_trans (show a≤10*a+(b.toNat-48) by omega) (ih _)
theorem parse10:∀(l:List UInt8) (a:Nat),(∀c∈l,digitP c=true)→Go.Lib.parseUint10 a l=.ok (l.foldl (fun m b=>10*m+(b.toNat-48)) a)∨(Go.Lib.parseUint10 a l=.range∧12<l.foldl (fun m b=>10*m+(b.toNat-48)) a)
 | [],a,_=>.inl rfl
 | c::r,a,h=>by
  have hc:=h c (by simp);simp only[digitP,Bool.and_eq_true,decide_eq_true_eq]at hc;have h1:=fold_le r (10*a+(c.toNat-48));have e:a*10+(c.toNat-48)=10*a+(c.toNat-48):=by omega
  rw[Go.Lib.parseUint10,if_pos hc,List.foldl_cons,e];split
  ·exact .inr ⟨rfl,by omega⟩
  ·split
   ·exact .inr ⟨rfl,by omega⟩
   ·exact parse10 r _ (fun x hx=>h x (by simp[hx]))
theorem atoi_dig {l:List UInt8}(hne:l≠[])(h:∀c∈l,digitP c=true):Go.Lib.atoiAll l=.ok (decV l:Int)∨(Go.Lib.atoiAll l=.range∧12<decV l):=by
 obtain⟨c,r,rfl⟩:∃c r,l=c::r:=by cases l with
  | nil=>exact absurd rfl hne
  | cons c r=>exact⟨c,r,rfl⟩
 have hc:=h c (by simp);simp only[digitP,Bool.and_eq_true,decide_eq_true_eq]at hc;rw[Go.Lib.atoiAll_plain c r (by omega) (by omega)];have hm:Go.Lib.parseMag (c::r)=Go.Lib.parseUint10 0 (c::r):=by unfold Go.Lib.parseMag;rw[if_neg (by simp)]
 rw[hm];rcases parse10 (c::r) 0 h with h1|⟨h1,h2⟩
 ·rw[h1];unfold Go.Lib.signless;have e:(c::r).foldl (fun m b=>10*m+(b.toNat-48)) 0=decV (c::r):=rfl;rw[e];dsimp only;split
  ·exact .inr ⟨rfl,by omega⟩
  ·exact .inl rfl
 ·rw[h1];exact .inr ⟨rfl,h2⟩
end Cae
namespace Go.Proofs.YtodeeahdhnjpkaaGreatDoor
open Go.Vc Go.Proofs Go.RowKit Cae
attribute [local irreducible] wpL callK valK unitK runK Fun Sl Vc.Own vc vcOps opK pureK
def atoiR_ren:Go.Shelf.Ren:=⟨fun|172=>117|244=>159|245=>157|247=>156|279=>186|280=>187|281=>188|282=>189|287=>185|316=>215|171=>217|205=>216|321=>213|322=>214|243=>232|246=>190|283=>218|284=>219|285=>220|286=>221|129=>143|317=>233|318=>234|319=>235|320=>236|337=>240|338=>241|n=>n,fun|9=>9|3=>3|75=>32|76=>172|4=>4|5=>5|167=>259|37=>142|0=>0|85=>168|2=>2|168=>262|53=>208|175=>260|46=>109|210=>290|127=>306|145=>309|143=>307|21=>21|171=>292|173=>294|212=>311|51=>206|20=>20|213=>312|232=>316|233=>317|80=>76|n=>n,fun|15=>6|16=>7|17=>10|18=>11|19=>12|n=>n⟩
theorem atoiR:Go.Proofs.LaysC.n172 Tryz.prog atoiR_ren:={
 mixed:=by kernel_rfl
 f129:=Tryz.func143.trans (congrArg some (by kernel_rfl))
 f171:=Tryz.func217.trans (congrArg some (by kernel_rfl))
 f172:=Tryz.func117.trans (congrArg some (by kernel_rfl))
 f205:=Tryz.func216.trans (congrArg some (by kernel_rfl))
 f243:=Tryz.func232.trans (congrArg some (by kernel_rfl))
 f244:=Tryz.func159.trans (congrArg some (by kernel_rfl))
 f245:=Tryz.func157.trans (congrArg some (by kernel_rfl))
 f246:=Tryz.func190.trans (congrArg some (by kernel_rfl))
 f247:=Tryz.func156.trans (congrArg some (by kernel_rfl))
 f279:=Tryz.func186.trans (congrArg some (by kernel_rfl))
 f280:=Tryz.func187.trans (congrArg some (by kernel_rfl))
 f281:=Tryz.func188.trans (congrArg some (by kernel_rfl))
 f282:=Tryz.func189.trans (congrArg some (by kernel_rfl))
 f283:=Tryz.func218.trans (congrArg some (by kernel_rfl))
 f284:=Tryz.func219.trans (congrArg some (by kernel_rfl))
 f285:=Tryz.func220.trans (congrArg some (by kernel_rfl))
 f286:=Tryz.func221.trans (congrArg some (by kernel_rfl))
 f287:=Tryz.func185.trans (congrArg some (by kernel_rfl))
 f316:=Tryz.func215.trans (congrArg some (by kernel_rfl))
 f317:=Tryz.func233.trans (congrArg some (by kernel_rfl))
 f318:=Tryz.func234.trans (congrArg some (by kernel_rfl))
 f319:=Tryz.func235.trans (congrArg some (by kernel_rfl))
 f320:=Tryz.func236.trans (congrArg some (by kernel_rfl))
 f321:=Tryz.func213.trans (congrArg some (by kernel_rfl))
 f322:=Tryz.func214.trans (congrArg some (by kernel_rfl))
 f337:=Tryz.func240.trans (congrArg some (by kernel_rfl))
 f338:=Tryz.func241.trans (congrArg some (by kernel_rfl))
 t0:=Tryz.underlying0
 a0:=Tryz.isAgg0
 z0:=Tryz.sizeOf0
 v0:=Tryz.zeroValue0
 t2:=Tryz.underlying2
 a2:=Tryz.isAgg2
 z2:=Tryz.sizeOf2
 v2:=Tryz.zeroValue2
 t3:=Tryz.underlying3
 a3:=Tryz.isAgg3
 z3:=Tryz.sizeOf3
 v3:=Tryz.zeroValue3
 t4:=Tryz.underlying4
 a4:=Tryz.isAgg4
 z4:=Tryz.sizeOf4
 v4:=Tryz.zeroValue4
 t5:=Tryz.underlying5
 a5:=Tryz.isAgg5
 z5:=Tryz.sizeOf5
 v5:=Tryz.zeroValue5
 t9:=Tryz.underlying9
 a9:=Tryz.isAgg9
 z9:=Tryz.sizeOf9
 v9:=Tryz.zeroValue9
 t20:=Tryz.underlying20
 a20:=Tryz.isAgg20
 z20:=Tryz.sizeOf20
 v20:=Tryz.zeroValue20
 t21:=Tryz.underlying21
 a21:=Tryz.isAgg21
 z21:=Tryz.sizeOf21
 v21:=Tryz.zeroValue21
 t37:=Tryz.underlying142
 a37:=Tryz.isAgg142
 z37:=Tryz.sizeOf142
 v37:=Tryz.zeroValue142
 t46:=Tryz.underlying109
 a46:=Tryz.isAgg109
 z46:=Tryz.sizeOf109
 v46:=Tryz.zeroValue109
 t51:=Tryz.underlying206
 a51:=Tryz.isAgg206
 z51:=Tryz.sizeOf206
 v51:=Tryz.zeroValue206
 t53:=Tryz.underlying208
 a53:=Tryz.isAgg208
 z53:=Tryz.sizeOf208
 v53:=Tryz.zeroValue208
 t75:=Tryz.underlying32
 a75:=Tryz.isAgg32
 z75:=Tryz.sizeOf32
 v75:=Tryz.zeroValue32
 t76:=Tryz.underlying172
 a76:=Tryz.isAgg172
 z76:=Tryz.sizeOf172
 v76:=Tryz.zeroValue172
 t85:=Tryz.underlying168
 a85:=Tryz.isAgg168
 z85:=Tryz.sizeOf168
 v85:=Tryz.zeroValue168
 t127:=Tryz.underlying306
 a127:=Tryz.isAgg306
 z127:=Tryz.sizeOf306
 v127:=Tryz.zeroValue306
 t143:=Tryz.underlying307
 a143:=Tryz.isAgg307
 z143:=Tryz.sizeOf307
 v143:=Tryz.zeroValue307
 t145:=Tryz.underlying309
 a145:=Tryz.isAgg309
 z145:=Tryz.sizeOf309
 v145:=Tryz.zeroValue309
 t167:=Tryz.underlying259
 a167:=Tryz.isAgg259
 z167:=Tryz.sizeOf259
 v167:=Tryz.zeroValue259
 t168:=Tryz.underlying262
 a168:=Tryz.isAgg262
 z168:=Tryz.sizeOf262
 v168:=Tryz.zeroValue262
 t171:=Tryz.underlying292
 a171:=Tryz.isAgg292
 z171:=Tryz.sizeOf292
 v171:=Tryz.zeroValue292
 t173:=Tryz.underlying294
 a173:=Tryz.isAgg294
 z173:=Tryz.sizeOf294
 v173:=Tryz.zeroValue294
 t175:=Tryz.underlying260
 a175:=Tryz.isAgg260
 z175:=Tryz.sizeOf260
 v175:=Tryz.zeroValue260
 t210:=Tryz.underlying290
 a210:=Tryz.isAgg290
 z210:=Tryz.sizeOf290
 v210:=Tryz.zeroValue290
 t212:=Tryz.underlying311
 a212:=Tryz.isAgg311
 z212:=Tryz.sizeOf311
 v212:=Tryz.zeroValue311
 t213:=Tryz.underlying312
 a213:=Tryz.isAgg312
 z213:=Tryz.sizeOf312
 t232:=Tryz.underlying316
 a232:=Tryz.isAgg316
 z232:=Tryz.sizeOf316
 v232:=Tryz.zeroValue316
 t233:=Tryz.underlying317
 a233:=Tryz.isAgg317
 z233:=Tryz.sizeOf317
 v233:=Tryz.zeroValue317
 g15:=by kernel_rfl
 g16:=by kernel_rfl
 g17:=by kernel_rfl
 g18:=by kernel_rfl
 g19:=by kernel_rfl
 t80:=Tryz.underlying76
 a80:=Tryz.isAgg76
 z80:=Tryz.sizeOf76
 v80:=Tryz.zeroValue76
 i0:=by kernel_rfl
 i2:=by kernel_rfl
 i3:=by kernel_rfl
 i4:=by kernel_rfl
 i5:=by kernel_rfl
 i9:=by kernel_rfl
 i20:=by kernel_rfl
 i21:=by kernel_rfl
 i37:=by kernel_rfl
 i46:=by kernel_rfl
 i51:=by kernel_rfl
 i53:=by kernel_rfl
 i75:=by kernel_rfl
 i76:=by kernel_rfl
 i80:=by kernel_rfl
 i85:=by kernel_rfl
 i127:=by kernel_rfl
 i143:=by kernel_rfl
 i145:=by kernel_rfl
 i167:=by kernel_rfl
 i168:=by kernel_rfl
 i171:=by kernel_rfl
 i173:=by kernel_rfl
 i175:=by kernel_rfl
 i210:=by kernel_rfl
 i212:=by kernel_rfl
 i232:=by kernel_rfl
 i233:=by kernel_rfl
 m15:=by kernel_rfl
 m16:=by kernel_rfl
 m17:=by kernel_rfl
 m18:=by kernel_rfl
 m19:=by kernel_rfl
 c0:=by kernel_rfl
 c2:=by kernel_rfl
 c3:=by kernel_rfl
 c4:=by kernel_rfl
 c5:=by kernel_rfl
 c9:=by kernel_rfl
 c20:=by kernel_rfl
 c21:=by kernel_rfl
 c37:=by kernel_rfl
 c46:=by kernel_rfl
 c51:=by kernel_rfl
 c53:=by kernel_rfl
 c75:=by kernel_rfl
 c76:=by kernel_rfl
 c80:=by kernel_rfl
 c85:=by kernel_rfl
 c127:=by kernel_rfl
 c143:=by kernel_rfl
 c145:=by kernel_rfl
 c167:=by kernel_rfl
 c168:=by kernel_rfl
 c171:=by kernel_rfl
 c173:=by kernel_rfl
 c175:=by kernel_rfl
 c210:=by kernel_rfl
 c212:=by kernel_rfl
 c213:=by kernel_rfl
 c232:=by kernel_rfl
 c233:=by kernel_rfl }
theorem atoi_c (s:List UInt8)(hs:s.length≤1000000)(hne:s≠[])(hd:∀c∈s,digitP c=true)(w:World)(h:SErrs w):Fun Tryz.prog 117 [str s] w fun r w' =>
  (r=.tuple #[.int .i64 (decV s),.nilIface]∨(12<decV s∧∃v t p,r=.tuple #[.int .i64 v,.iface t p]))∧Below w.heap.size w w':=by
 obtain⟨⟨t1,p1,h1⟩,⟨t2,p2,h2⟩⟩:=h;refine fun_of_calls Tryz.func117 (by kernel_rfl) (by kernel_rfl) ?_;rcases atoi_dig hne hd with ha|⟨ha,hb⟩
 ·refine Calls.mono (Any.strconv_Atoi_ok atoiR ⟨s.toArray⟩ (by show s.length≤_;omega) _ ha w) ?_
  rintro e w' ⟨rfl,hw⟩;refine⟨_,rfl,.inl rfl,?_⟩;rcases hw with rfl|⟨t,rfl⟩
  ·exact Below.refl _ _
  ·exact Lib.bytesWorld_below _ _ _
 ·refine Calls.mono (Any.strconv_Atoi_range atoiR ⟨s.toArray⟩ (by show s.length≤_;omega) ha _ w h2 (.inr ⟨_,_,rfl⟩)) ?_
  rintro e w' ⟨N,rfl,_,_,hw⟩;exact⟨_,rfl,.inr ⟨hb,_,_,_,rfl⟩,hw⟩
theorem times_c {pb B:Nat}{w:World}{l:List Cae.Tok}(h:PS pb B w l):Pc 167 [.pointer (some ⟨pb,0,none⟩)] pb B w l timesP (fun _ r n=>r=.int .i64 (n:Int)∧n≤12):=by
 obtain⟨t,r,rfl⟩:=h.tl.cons;obtain⟨b,o,c,hB,hc,hne,c0,c1,c2,c3⟩:=h.hd;have cb:w.cell? ⟨pb,0,none⟩=some (.slice (some ⟨b,o,none⟩) (r.length+1) c):=hB.cell rfl;have hle:=h.le;have hlt:=h.lt;refine fun2_of_vc Tryz.func167 rfl (by kernel_rfl) [.tmp 2] rfl ?_;push_cast -dsimp(maxSteps:=4000000) [Tryz.ntmps167];push_cast -dsimp[cb,Nat.zero_mul,Nat.add_zero,c3];refine⟨by omega,?_⟩;refine allocK (z:=[.int .i64 0,str [],.int .i64 0]) (by kernel_rfl) ?_;intro w1 hw1;have B1:=hw1.blk;have P1:=h.below hw1.below;have z1:=hw1.size;have b1:=hw1.below;push_cast -dsimp;refine storeAgg (xt:=91) (n:=3) (by kernel_rfl) B1 rfl (by decide) (by simp;exact⟨rfl,rfl,rfl⟩) ?_;intro w2 hw2;have B2:Blk w2 w.heap.size 91 [.int .i64 t.kind,str t.text,.int .i64 t.pos]:=hw2.blk;have P2:=P1.kept hw2.kept (fun i hi=>by omega);have z2:=hw2.size;have b2:=b1.trans (hw2.kept.below (B:=w.heap.size) (by omega) (fun i h=>by omega));have k2:Kept (·=pb) w w2:=Kept.of_below b2 (fun i h1 h2=>by omega);have d0:w2.cell? ⟨w.heap.size,0,none⟩=some (.int .i64 t.kind):=B2.cell rfl;have d1:w2.cell? ⟨w.heap.size,1,none⟩=some (str t.text):=B2.cell rfl;push_cast -dsimp[d0];refine⟨fun hk=>?_,fun hk=>?_⟩
 ·have hk2:isKind 2 (t::r)=false:=by
   have:t.kind≠2:=fun e=>hk (by omega);simp[isKind,Cae.hd,this]
  refine callP_of (fail_c 3 P2) (fun _ _ h=>h.elim) ?_;rintro c w4 ⟨ht,hb⟩;push_cast -dsimp;exact⟨3,_,by unfold timesP pif;rw[hk2];rfl,ht.mono (by omega),k2.trans (Kept.of_below hb (X:=(·=pb)) (fun i h1 h2=>by omega)) (fun i _ h=>h)⟩
 ·have hkk:t.kind=2:=by omega
  have hk2:isKind 2 (t::r)=true:=by simp[isKind,Cae.hd,hkk]
  have hnum:=h.tl.num t (by simp) hkk;push_cast -dsimp[d1];refine callK_of (atoi_c t.text (h.tl.txt t (by simp)) hnum.1 hnum.2 w2 P2.er) ?_;rintro rv w3 ⟨hr,b3⟩;have P3:=P2.below b3;have z3:=b3.size;have k3:Kept (·=pb) w w3:=k2.trans (Kept.of_below b3 (X:=(·=pb)) (fun i h1 h2=>by omega)) (fun i _ h=>h);have herr:12<decV t.text→timesP (t::r)=.error (4,(Cae.hd (t::r)).pos):=fun h12=>by
   unfold timesP pif;rw[hk2];simp[Cae.pb,peek,Cae.hd,h12,pfail]
  rcases hr with rfl|⟨h12,v,t',p,rfl⟩
  ·push_cast -dsimp;refine⟨fun hh=>?_,fun hh=>?_⟩
   ·refine callP_of (fail_c 4 P3) (fun _ _ h=>h.elim) ?_;rintro c w4 ⟨ht,hb⟩;push_cast -dsimp;exact⟨4,_,herr (by omega),ht.mono (by omega),k3.trans (Kept.of_below hb (X:=(·=pb)) (fun i h1 h2=>by omega)) (fun i _ h=>h)⟩
   ·have h5:t.kind≠5:=by omega
    obtain⟨b4,o4,c4,hB4,hc4,hne4,_,_,_,_⟩:=P3.hd;have cb4:w3.cell? ⟨pb,0,none⟩=some (.slice (some ⟨b4,o4,none⟩) (r.length+1) c4):=hB4.cell rfl;push_cast -dsimp[cb4,slice1];refine⟨by omega,?_⟩;refine storeK_of hB4 (by simp) rfl ?_;intro w4 hw4;have P4:=P3.pop hB4 h5 hw4;have k4:=k3.trans hw4.kept (fun i _ h=>h);push_cast -dsimp;have h12:¬12<decV t.text:=by omega
    exact⟨decV t.text,r,by unfold timesP pif;rw[hk2];simp[Cae.pb,peek,Cae.hd,h12,popP,h5,pr],⟨rfl,by omega⟩,P4,k4⟩
  ·push_cast -dsimp;refine callP_of (fail_c 4 P3) (fun _ _ h=>h.elim) ?_;rintro c w4 ⟨ht,hb⟩;push_cast -dsimp;exact⟨4,_,herr (by omega),ht.mono (by omega),k3.trans (Kept.of_below hb (X:=(·=pb)) (fun i h1 h2=>by omega)) (fun i _ h=>h)⟩
end Go.Proofs.YtodeeahdhnjpkaaGreatDoor
end
section
namespace Cae
def turnsOf (r:Rg):List Int:=(if 0≤r.1∧r.1≤1114111 then [r.1] else [])++(if 0≤r.2∧r.2≤1114111 then [r.2+1] else [])
def turns (L:List Rg):List Int:=[0,1114112]++L.flatMap turnsOf
def joinRg (out:List Rg)(a b:Int):List Rg :=
 match out.getLast? with
 | none=>[(a,b-1)]
 | some r=>if r.2+1=a then out.dropLast++[(r.1,b-1)] else out++[(a,b-1)]
def stepRg (g:Int→Bool)(out:List Rg)(a b:Int):List Rg:=if a=b∨g a=false then out else joinRg out a b
def toldGo (g:Int→Bool):List Rg→List Int→List Rg
 | out,a::b::l=>toldGo g (stepRg g out a b) (b::l)
 | out,_=>out
def toldP (g:Int→Bool)(L:List Rg):List Rg:=toldGo g [] ((turns L).mergeSort fun a b=>decide (a≤b))
structure ToldI (g:Int→Bool)(out:List Rg)(a:Int):Prop where
 right:setRight (-2) out=true
 last:lastHi (-2) out+1≤a
 has:∀p,hasP out p=(decide (0≤p∧p<a) && g p)
theorem joinRg_spec {g:Int→Bool}{out:List Rg}{a b:Int}(h:ToldI g out a)(h0:0≤a)(hab:a<b)(hb:b≤1114112)(hg:∀p,a≤p→p<b→g p=true):ToldI g (joinRg out a b) b:=by
 obtain⟨hr,hl,hh⟩:=h;have key:∀p,(decide (0≤p∧p<b) && g p)=((decide (0≤p∧p<a) && g p) || decide (a≤p∧p≤b-1)):=by
  intro p;by_cases h1:a≤p∧p<b
  ·rw[hg p h1.1 h1.2,decide_eq_true (p:=0≤p∧p<b) (by omega),decide_eq_true (p:=a≤p∧p≤b-1) (by omega),Bool.or_true,Bool.and_true]
  ·rw[decide_eq_false (p:=a≤p∧p≤b-1) (by omega),Bool.or_false];congr 1;apply decide_eq_decide.2;omega
 rcases List.eq_nil_or_concat out with rfl|⟨m,r,rfl⟩
 ·refine⟨?_,?_,fun p=>?_⟩
  ·show setRight (-2) [(a,b-1)]=true
   rw[setRight_con];exact⟨⟨by simp only;omega,by simp only;omega,by simp only;omega⟩,rfl⟩
  ·show b-1+1≤b;omega
  ·show hasP [(a,b-1)] p=_
   rw[key,←hh,hasP_cons];simp[hasP_nil]
 ·rw[List.concat_eq_append]at *
  have hg':(m++[r]).getLast?=some r:=by simp
  rw[lastHi_snoc]at hl;rw[setRight_snoc]at hr;unfold joinRg;rw[hg'];simp only;by_cases he:r.2+1=a
  ·rw[if_pos he];have hd:(m++[r]).dropLast=m:=by simp
   rw[hd];refine⟨?_,?_,fun p=>?_⟩
   ·rw[setRight_snoc];simp only;exact⟨hr.1,by omega,by omega,by omega⟩
   ·rw[lastHi_snoc];simp only;omega
   ·rw[key,←hh,hasP_app,hasP_app,hasP_cons,hasP_cons,hasP_nil,Bool.or_false,Bool.or_false,Bool.or_assoc];congr 1;rw[←Bool.decide_or];apply decide_eq_decide.2;simp only;omega
  ·rw[if_neg he];refine⟨?_,?_,fun p=>?_⟩
   ·rw[setRight_snoc,setRight_snoc,lastHi_snoc];simp only;exact⟨hr,by omega,by omega,by omega⟩
   ·rw[lastHi_snoc];simp only;omega
   ·rw[key,←hh,hasP_app (m++[r]),hasP_cons,hasP_nil,Bool.or_false]
theorem ToldI.skip {g:Int→Bool}{out:List Rg}{a b:Int}(h:ToldI g out a)(hab:a≤b)(hg:∀p,a≤p→p<b→g p=false):ToldI g out b:=by
 refine⟨h.right,by have:=h.last;omega,fun p=>?_⟩;rw[h.has];by_cases h1:a≤p∧p<b
 ·rw[hg p h1.1 h1.2,Bool.and_false,Bool.and_false]
 ·congr 1;apply decide_eq_decide.2;omega
def Steady (g:Int→Bool)(l:List Int):Prop:=∀(a b:Int) (u v:List Int),l=u++a::b::v→∀p,a≤p→p<b→g p=g a
theorem stepRg_spec {g:Int→Bool}{out:List Rg}{a b:Int}(h:ToldI g out a)(h0:0≤a)(hab:a≤b)(hb:b≤1114112)(hg:∀p,a≤p→p<b→g p=g a):ToldI g (stepRg g out a b) b:=by
 unfold stepRg;by_cases he:a=b
 ·rw[if_pos (.inl he),←he];exact h
 ·cases hga:g a with
  | false =>
   rw[if_pos (.inr rfl)];exact h.skip hab (fun p h1 h2=>by rw[hg p h1 h2,hga])
  | true =>
   rw[if_neg (by rintro(h|h)<;>simp_all)];exact joinRg_spec h h0 (by omega) hb (fun p h1 h2=>by rw[hg p h1 h2,hga])
theorem toldGo_spec {g:Int→Bool}:∀(l:List Int) (out:List Rg) (a:Int),ToldI g out a→(a::l).Pairwise (·≤·)→(∀x∈a::l,0≤x∧x≤1114112)→Steady g (a::l)→ToldI g (toldGo g out (a::l)) ((a::l).getLast (by simp))
 | [],out,a,h,_,_,_=>h
 | b::l,out,a,h,hp,hm,hs=>by
  rw[List.pairwise_cons]at hp;have h1:=hm a (by simp);have h2:=hm b (by simp);have h3:=stepRg_spec h h1.1 (hp.1 b (by simp)) h2.2 (hs a b [] l rfl)
  have:=toldGo_spec l _ b h3 hp.2 (fun x hx=>hm x (List.mem_cons_of_mem _ hx)) (fun c d u v e=>hs c d (a::u) v (by rw[e];rfl));rw[List.getLast_cons (by simp)];exact this
theorem turnsOf_mem {r:Rg}{x:Int}(h:x∈turnsOf r):0≤x∧x≤1114112:=by
 unfold turnsOf at h;rw[List.mem_append]at h;rcases h with h|h
 ·split at h
  ·rw[List.mem_singleton.1 h];omega
  ·cases h
 ·split at h
  ·rw[List.mem_singleton.1 h];omega
  ·cases h
theorem turns_mem {L:List Rg}{x:Int}(h:x∈turns L):0≤x∧x≤1114112:=by
 unfold turns at h;rcases List.mem_append.1 h with h|h
 ·simp at h;omega
 ·obtain⟨r,_,hx⟩:=List.mem_flatMap.1 h;exact turnsOf_mem hx
def AsksOf (g:Int→Bool)(L:List Rg):Prop:=∀p q:Int,(∀r∈L,(r.1≤p↔r.1≤q)∧(p≤r.2↔q≤r.2))→g p=g q
theorem steady_of {g:Int→Bool}{L:List Rg}(hg:AsksOf g L){l:List Int}(hl:l.Perm (turns L))(hp:l.Pairwise (·≤·)):Steady g l:=by
 intro a b u v e p h1 h2;have hm:∀x∈l,0≤x∧x≤1114112:=fun x hx=>turns_mem (hl.mem_iff.1 hx);have ha:=hm a (by rw[e];simp);have hb:=hm b (by rw[e];simp);have no:∀x∈turns L,¬(a<x∧x<b):=by
  intro x hx hh;have hx:=hl.mem_iff.2 hx;rw[e]at hx hp;rw[List.pairwise_append]at hp;obtain⟨_,hp2,hp3⟩:=hp;rw[List.pairwise_cons,List.pairwise_cons]at hp2;rcases List.mem_append.1 hx with hx|hx
  ·have:=hp3 x hx a (by simp);omega
  ·rcases List.mem_cons.1 hx with hx|hx
   ·omega
   ·rcases List.mem_cons.1 hx with hx|hx
    ·omega
    ·have:=hp2.2.1 x hx;omega
 refine hg p a fun r hr=>?_;have t1:0≤r.1→r.1≤1114111→r.1∈turns L:=fun h1 h2=>List.mem_append_right _ (List.mem_flatMap.2 ⟨r,hr,List.mem_append_left _ (by rw[if_pos ⟨h1,h2⟩];simp)⟩);have t2:0≤r.2→r.2≤1114111→r.2+1∈turns L:=fun h1 h2=>List.mem_append_right _ (List.mem_flatMap.2 ⟨r,hr,List.mem_append_right _ (by rw[if_pos ⟨h1,h2⟩];simp)⟩);refine⟨⟨fun h=>?_,fun h=>by omega⟩,⟨fun h=>by omega,fun h=>?_⟩⟩
 ·by_cases hh:r.1≤a
  ·exact hh
  ·have:=no _ (t1 (by omega) (by omega));omega
 ·by_cases hh:p≤r.2
  ·exact hh
  ·have:=no _ (t2 (by omega) (by omega));omega
theorem toldP_spec {g:Int→Bool}{L:List Rg}(hg:AsksOf g L):setRight (-2) (toldP g L)=true∧∀p,hasP (toldP g L) p=(decide (0≤p∧p≤1114111) && g p):=by
 have hperm:=List.mergeSort_perm (turns L) fun a b=>decide (a≤b);have hsort:((turns L).mergeSort fun a b=>decide (a≤b)).Pairwise (·≤·):=by
  have:=List.pairwise_mergeSort (le:=fun a b:Int=>decide (a≤b)) (fun a b c h1 h2=>by simp only[decide_eq_true_eq]at *;omega) (fun a b=>by simp only[Bool.or_eq_true,decide_eq_true_eq];omega) (turns L);exact this.imp fun h=>of_decide_eq_true h
 have hst:=steady_of hg hperm hsort;unfold toldP;generalize (turns L).mergeSort (fun a b=>decide (a≤b))=l at hperm hsort hst ⊢
 have hm:∀x∈l,0≤x∧x≤1114112:=fun x hx=>turns_mem (hperm.mem_iff.1 hx);have m0:(0:Int)∈l:=hperm.mem_iff.2 (by simp[turns]);have m1:(1114112:Int)∈l:=hperm.mem_iff.2 (by simp[turns]);match l,hm,m0,m1,hsort,hst with
 | a::l,hm,m0,m1,hsort,hst =>
  have ha:a=0:=by
   have h1:=hm a (by simp);rw[List.pairwise_cons]at hsort;rcases List.mem_cons.1 m0 with h|h
   ·exact h.symm
   ·have:=hsort.1 0 h;omega
  have hlast:(a::l).getLast (by simp)=1114112:=by
   have h1:=hm _ (List.getLast_mem (l:=a::l) (by simp));have h2:∀(l:List Int) (hn:l≠[]),l.Pairwise (·≤·)→∀x∈l,x≤l.getLast hn:=by
    intro l;induction l with
    | nil=>intro hn;exact absurd rfl hn
    | cons b m ih =>
     intro hn hp x hx;rw[List.pairwise_cons]at hp;cases m with
     | nil=>simp at hx;simp[hx]
     | cons c m =>
      rw[List.getLast_cons (by simp)];rcases List.mem_cons.1 hx with rfl|hx
      ·exact hp.1 _ (List.getLast_mem _)
      ·exact ih (by simp) hp.2 x hx
   have h3:=h2 _ (by simp) hsort 1114112 m1;omega
  have h0:ToldI g [] a:=⟨rfl,by show -2+1≤a;omega,fun p=>by rw[hasP_nil,decide_eq_false (by omega),Bool.false_and]⟩
  have:=toldGo_spec l [] a h0 hsort hm hst;rw[hlast]at this;refine⟨this.right,fun p=>?_⟩;rw[this.has];congr 1;apply decide_eq_decide.2;omega
theorem asks_has {L:List Rg}:∀(l:List Rg),(∀r∈l,r∈L)→AsksOf (hasP l) L
 | [],_=>fun p q _=>rfl
 | r::l,h=>fun p q hr=>by
  have h1:=hr r (h r (List.mem_cons_self ..));rw[hasP_cons,hasP_cons,asks_has l (fun x hx=>h x (List.mem_cons_of_mem _ hx)) p q hr];congr 1;apply decide_eq_decide.2;rw[h1.1,h1.2]
theorem told_or {s t:List Rg}(hs:setRight (-2) s=true)(ht:setRight (-2) t=true):toldP (fun p=>hasP s p || hasP t p) (s++t)=setOr s t:=by
 have h:=toldP_spec (g:=fun p=>hasP s p || hasP t p) (L:=s++t) fun p q hr=>by
  simp only;rw[asks_has s (fun r h=>List.mem_append_left _ h) p q hr,asks_has t (fun r h=>List.mem_append_right _ h) p q hr]
 exact set_ext h.1 (setOr_right s t) fun p=>by
  rw[h.2,setOr_has hs ht,Bool.and_or_distrib_left,in_range hs,in_range ht]
theorem told_and {s t:List Rg}(hs:setRight (-2) s=true)(ht:setRight (-2) t=true):toldP (fun p=>hasP s p && hasP t p) (s++t)=setAnd s t:=by
 have h:=toldP_spec (g:=fun p=>hasP s p && hasP t p) (L:=s++t) fun p q hr=>by
  simp only;rw[asks_has s (fun r h=>List.mem_append_left _ h) p q hr,asks_has t (fun r h=>List.mem_append_right _ h) p q hr]
 exact set_ext h.1 (setAnd_right s t) fun p=>by
  rw[h.2,setAnd_has hs ht,←Bool.and_assoc,in_range hs]
theorem told_less {s t:List Rg}(hs:setRight (-2) s=true)(ht:setRight (-2) t=true):toldP (fun p=>hasP s p && !hasP t p) (s++t)=setLess s t:=by
 have h:=toldP_spec (g:=fun p=>hasP s p && !hasP t p) (L:=s++t) fun p q hr=>by
  simp only;rw[asks_has s (fun r h=>List.mem_append_left _ h) p q hr,asks_has t (fun r h=>List.mem_append_right _ h) p q hr]
 exact set_ext h.1 (setLess_right s t) fun p=>by
  rw[h.2,setLess_has hs ht,←Bool.and_assoc,in_range hs]
theorem told_not {s:List Rg}(hs:setRight (-2) s=true):toldP (fun p=>!hasP s p) s=setNot s:=by
 have h:=toldP_spec (g:=fun p=>!hasP s p) (L:=s) fun p q hr=>by simp only;rw[asks_has s (fun _ h=>h) p q hr]
 exact set_ext h.1 (setNot_right hs) fun p=>by rw[h.2,setNot_has hs]
theorem flat_turns (L:List Rg):(L.flatMap turnsOf).length≤2*L.length:=by
 induction L with
 | nil=>simp
 | cons r L ih =>
  have h:(turnsOf r).length≤2:=by unfold turnsOf;rw[List.length_append];split<;>split<;>simp
  rw[List.flatMap_cons,List.length_append,List.length_cons];omega
theorem turns_len (L:List Rg):(turns L).length≤2*L.length+2:=by
 have:=flat_turns L;unfold turns;rw[List.length_append];simp only[List.length_cons,List.length_nil];omega
theorem toldGo_step {g:Int→Bool}{A:List Int}{out:List Rg}{k:Nat}{a b:Int}(ha:A[k]?=some a)(hb:A[k+1]?=some b):toldGo g out (A.drop k)=toldGo g (stepRg g out a b) (A.drop (k+1)):=by
 have h1:=(List.getElem?_eq_some_iff.1 ha).1;have h2:=(List.getElem?_eq_some_iff.1 hb).1;rw[List.drop_eq_getElem_cons h1,List.drop_eq_getElem_cons h2,(List.getElem?_eq_some_iff.1 ha).2,(List.getElem?_eq_some_iff.1 hb).2,toldGo]
theorem toldGo_end {g:Int→Bool}{A:List Int}{out:List Rg}{k:Nat}(h:A.length≤k+1):toldGo g out (A.drop k)=out:=by
 have hl:(A.drop k).length≤1:=by rw[List.length_drop];omega
 match A.drop k,hl with
 | [],_=>rfl
 | [x],_=>rfl
theorem told_next {g:Int→Bool}{L:List Rg}{A:List Int}(hperm:A.Perm (turns L))(hp:A.Pairwise (·≤·))(hg:AsksOf g L){out:List Rg}{k:Nat}{a b:Int}(ha:A[k]?=some a)(hb:A[k+1]?=some b)(h:ToldI g out a) :
  ToldI g (stepRg g out a b) b∧0≤a∧a≤b∧b≤1114112:=by
 have h1:=List.getElem?_eq_some_iff.1 ha;have h2:=List.getElem?_eq_some_iff.1 hb;have m1:=turns_mem (hperm.mem_iff.1 (List.mem_of_getElem? ha));have m2:=turns_mem (hperm.mem_iff.1 (List.mem_of_getElem? hb));have hab:a≤b:=by
  have:=List.pairwise_iff_getElem.1 hp k (k+1) h1.1 h2.1 (by omega);rw[h1.2,h2.2]at this;exact this
 have e:A=A.take k++a::b::A.drop (k+2):=by
  conv=>lhs;rw[←List.take_append_drop k A,List.drop_eq_getElem_cons h1.1,List.drop_eq_getElem_cons h2.1,h1.2,h2.2]
 exact⟨stepRg_spec h m1.1 hab m2.2 (steady_of hg hperm hp a b _ _ e),m1.1,hab,m2.2⟩
theorem told_first {g:Int→Bool}{L:List Rg}{A:List Int}(hperm:A.Perm (turns L))(hp:A.Pairwise (·≤·)):∃a,A[0]?=some a∧ToldI g [] a:=by
 have m0:(0:Int)∈A:=hperm.mem_iff.2 (by simp[turns]);match A,hp,m0,hperm with
 | a::l,hp,m0,hperm =>
  have h1:=turns_mem (hperm.mem_iff.1 (List.mem_cons_self ..));have ha:a=0:=by
   rw[List.pairwise_cons]at hp;rcases List.mem_cons.1 m0 with h|h
   ·exact h.symm
   ·have:=hp.1 0 h;omega
  exact⟨a,rfl,rfl,by show -2+1≤a;omega,fun p=>by rw[hasP_nil,decide_eq_false (by omega),Bool.false_and]⟩
theorem turns_sorted (L:List Rg):((turns L).mergeSort fun a b=>decide (a≤b)).Perm (turns L)∧((turns L).mergeSort fun a b=>decide (a≤b)).Pairwise (·≤·):=by
 refine⟨List.mergeSort_perm _ _,?_⟩
 have:=List.pairwise_mergeSort (le:=fun a b:Int=>decide (a≤b)) (fun a b c h1 h2=>by simp only[decide_eq_true_eq]at *;omega) (fun a b=>by simp only[Bool.or_eq_true,decide_eq_true_eq];omega) (turns L);exact this.imp fun h=>of_decide_eq_true h
theorem joinRg_len (out:List Rg)(a b:Int):(joinRg out a b).length≤out.length+1:=by
 unfold joinRg;split
 ·simp
 ·split
  ·rw[List.length_append,List.length_dropLast];simp
  ·simp
theorem stepRg_len (g:Int→Bool)(out:List Rg)(a b:Int):(stepRg g out a b).length≤out.length+1:=by
 unfold stepRg;split
 ·omega
 ·exact joinRg_len out a b
theorem turns_app (A B:List Rg):turns (A++B)=turns A++B.flatMap turnsOf:=by
 unfold turns;rw[List.flatMap_append,List.append_assoc]
theorem fieldsGoD_count:∀(f:Nat) (cur l:List UInt8),(Go.Lib.fieldsGoD f cur l).length≤f+1
 | 0,cur,l=>by rw[Go.Lib.fieldsGoD];split<;>simp
 | f+1,cur,l=>by
  have h1:=fieldsGoD_count f [] (l.drop (Go.Lib.decodeL l).2);have h2:=fieldsGoD_count f (cur++l.take (Go.Lib.decodeL l).2) (l.drop (Go.Lib.decodeL l).2);rw[Go.Lib.fieldsGoD];split
  ·split<;>simp
  ·split
   ·rw[List.length_append];split<;>simp<;>omega
   ·omega
theorem fieldsGoD_size:∀(f:Nat) (cur l x:List UInt8),x∈Go.Lib.fieldsGoD f cur l→x.length≤cur.length+l.length
 | 0,cur,l,x,h=>by
  rw[Go.Lib.fieldsGoD]at h;split at h
  ·cases h
  ·rw[List.mem_singleton.1 h];omega
 | f+1,cur,l,x,h=>by
  rw[Go.Lib.fieldsGoD]at h;split at h
  ·split at h
   ·cases h
   ·rw[List.mem_singleton.1 h];omega
  ·split at h
   ·rcases List.mem_append.1 h with h|h
    ·split at h
     ·cases h
     ·rw[List.mem_singleton.1 h];omega
    ·have:=fieldsGoD_size f _ _ x h;rw[List.length_drop]at this;simp at this;omega
   ·have:=fieldsGoD_size f _ _ x h;rw[List.length_append,List.length_take,List.length_drop]at this;omega
theorem fieldsD_count (l:List UInt8):(Go.Lib.fieldsD l).length≤l.length+2:=fieldsGoD_count _ _ _
theorem fieldsD_size {l x:List UInt8}(h:x∈Go.Lib.fieldsD l):x.length≤l.length:=by
 have:=fieldsGoD_size _ _ _ _ h;simpa using this
theorem fieldsGo_word:∀(x cur rest:List UInt8),(∀b∈x,Go.Lib.isSp b=false)→Go.Lib.fieldsGo cur (x++rest)=Go.Lib.fieldsGo (cur++x) rest
 | [],cur,rest,_=>by simp
 | b::x,cur,rest,h=>by
  rw[List.cons_append,Go.Lib.fieldsGo_more _ _ _ (h b (by simp)),fieldsGo_word x _ _ (fun c hc=>h c (by simp[hc]))];simp
theorem fields_join:∀(l:List (List UInt8)),(∀x∈l,x≠[]∧∀b∈x,Go.Lib.isSp b=false)→Go.Lib.fields (Go.Lib.join l [32])=l
 | [],_=>rfl
 | [x],h=>by
  have hx:=h x (by simp);unfold Go.Lib.fields;rw[Go.Lib.join_one,←List.append_nil x,fieldsGo_word x [] [] hx.2];unfold Go.Lib.fieldsGo;rw[List.nil_append,if_neg (by simpa using hx.1),List.append_nil]
 | x::y::l,h=>by
  have hx:=h x (by simp);have e:Go.Lib.join (x::y::l) [32]=x++32::Go.Lib.join (y::l) [32]:=by
   rw[Go.Lib.join_cons,Go.Lib.join_cons];simp[Go.Lib.joinTail]
  have ih:=fields_join (y::l) (fun z hz=>h z (by simp at hz ⊢;exact .inr hz));unfold Go.Lib.fields at ih ⊢
  rw[e,fieldsGo_word x [] _ hx.2,List.nil_append,Go.Lib.fieldsGo_end x 32 _ (by decide) hx.1,ih]
theorem hex_plain:∀b:UInt8,isHex b=true→Go.Lib.isSp b=false∧b.toNat<128∧b≠91∧b≠93:=by
 intro b h;unfold isHex at h;unfold Go.Lib.isSp;simp only[Bool.or_eq_true,Bool.and_eq_true,decide_eq_true_eq]at h;have hne:∀k:Nat,k<48∨k=91∨k=93→b≠UInt8.ofNat k:=by
  intro k hk e
  have:=congrArg UInt8.toNat e;rw[UInt8.toNat_ofNat']at this;omega
 have h9:=hne 9 (by omega);have h10:=hne 10 (by omega);have h11:=hne 11 (by omega);have h12:=hne 12 (by omega);have h13:=hne 13 (by omega);have h32:=hne 32 (by omega);refine⟨?_,by omega,hne 91 (by omega),hne 93 (by omega)⟩;simp only[Bool.or_eq_false_iff,beq_eq_false_iff_ne];exact⟨⟨⟨⟨⟨h9,h10⟩,h11⟩,h12⟩,h13⟩,h32⟩
theorem rgP_plain {r:Rg}(h0:0≤r.1)(h1:r.1<4294967296)(h2:r.2<4294967296):∀b∈rgP r,Go.Lib.isSp b=false∧b.toNat<128∧b≠91∧b≠93:=by
 intro b hb;unfold rgP at hb;rcases List.mem_append.1 hb with hb|hb
 ·exact hex_plain b (hexP_all (by omega) b hb)
 ·split at hb
  ·rcases List.mem_cons.1 hb with rfl|hb
   ·decide
   ·exact hex_plain b (hexP_all (by omega) b hb)
  ·cases hb
theorem join_plain {P:UInt8→Prop}(h32:P 32):∀(l:List (List UInt8)),(∀x∈l,∀b∈x,P b)→∀b∈Go.Lib.join l [32],P b
 | [],_,b,hb=>by cases hb
 | [x],h,b,hb=>by
  rw[Go.Lib.join_one]at hb;exact h x (by simp) b hb
 | x::y::l,h,b,hb=>by
  have e:Go.Lib.join (x::y::l) [32]=x++32::Go.Lib.join (y::l) [32]:=by
   rw[Go.Lib.join_cons,Go.Lib.join_cons];simp[Go.Lib.joinTail]
  rw[e]at hb;rcases List.mem_append.1 hb with hb|hb
  ·exact h x (by simp) b hb
  ·rcases List.mem_cons.1 hb with rfl|hb
   ·exact h32
   ·exact join_plain h32 (y::l) (fun z hz=>h z (by simp at hz ⊢;exact .inr hz)) b hb
theorem body_plain {l:List Rg}(h:setRight (-2) l=true):∀b∈bodyP l,b.toNat<128∧b≠91∧b≠93:=by
 refine join_plain (by decide) _ fun x hx b hb=>?_;obtain⟨q,hq,rfl⟩:=List.mem_map.1 hx
 have:=mem_right (by omega) h q hq;exact(rgP_plain (by omega) (by omega) (by omega) b hb).2
theorem fields_body {l:List Rg}(h:setRight (-2) l=true):Go.Lib.fieldsD (bodyP l)=l.map rgP:=by
 rw[Go.Lib.fieldsD_ascii _ fun b hb=>(body_plain h b hb).1];refine fields_join _ fun x hx=>?_;obtain⟨q,hq,rfl⟩:=List.mem_map.1 hx
 have:=mem_right (by omega) h q hq;exact⟨rgP_ne q,fun b hb=>(rgP_plain (by omega) (by omega) (by omega) b hb).1⟩
theorem dropWhile_stop {cs:List UInt8}:∀{l:List UInt8} {c:UInt8} {r:List UInt8},(∀b∈l,b∈cs)→c ∉ cs→(l++c::r).dropWhile (cs.contains ·)=c::r
 | [],c,r,_,hc=>by
  rw[List.nil_append,List.dropWhile_cons,if_neg (by simpa using hc)]
 | b::l,c,r,h,hc=>by
  rw[List.cons_append,List.dropWhile_cons,if_pos (by simpa using h b (by simp))];exact dropWhile_stop (fun x hx=>h x (by simp[hx])) hc
theorem trim_body {l:List Rg}(h:setRight (-2) l=true):Go.Lib.trimS (printP l) [91,93]=bodyP l:=by
 have hb:=body_plain h;have e:printP l=91::(bodyP l++[93]):=rfl;rw[e];generalize bodyP l=s at hb ⊢
 unfold Go.Lib.trimS Go.Lib.trimRightS Go.Lib.trimLeftS;rcases List.eq_nil_or_concat s with rfl|⟨m,c,rfl⟩
 ·rfl
 ·rw[List.concat_eq_append]at *
  have hc:c ∉ [(91:UInt8),93]:=by have:=hb c (by simp);simp[this.2.1,this.2.2]
  have hr:(91::((m++[c])++[93])).reverse=[93]++c::(m.reverse++[91]):=by simp
  rw[hr,dropWhile_stop (by simp) hc];have hrr:(c::(m.reverse++[91])).reverse=[91]++(m++[c]):=by simp
  rw[hrr];cases m with
  | nil=>exact dropWhile_stop (by simp) hc
  | cons d m =>
   have hd:d ∉ [(91:UInt8),93]:=by have:=hb d (by simp);simp[this.2.1,this.2.2]
   exact dropWhile_stop (by simp) hd
theorem trimS_len (s cs:List UInt8):(Go.Lib.trimS s cs).length≤s.length:=by
 have dw:∀(p:UInt8→Bool) (l:List UInt8),(l.dropWhile p).length≤l.length:=fun p l=>(List.dropWhile_sublist p).length_le;unfold Go.Lib.trimS Go.Lib.trimRightS Go.Lib.trimLeftS;refine Nat.le_trans (dw _ _) ?_;rw[List.length_reverse];refine Nat.le_trans (dw _ _) ?_;rw[List.length_reverse];exact Nat.le_refl _
theorem splitK_cut {c:UInt8}{k:Nat}{a r:List UInt8}(h:a.contains c=false):Go.Lib.splitK [c] 0 (k+1) (a++c::r)=a::Go.Lib.splitK [c] 0 k r:=by
 have hi:=ib_spec c (a++c::r);have hc:(a++c::r).contains c=true:=by rw[contains_app];simp
 rw[if_pos hc,(tw_app h).1,←Go.Lib.index_one]at hi;rw[Go.Lib.splitK,if_neg (by rw[hi];simp;try omega),hi,Int.toNat_natCast,Nat.add_zero,List.take_left]
 congr 2;rw[List.length_singleton,←List.drop_drop,List.drop_left];rfl
theorem splitK_none {c:UInt8}{k:Nat}{a:List UInt8}(h:a.contains c=false):Go.Lib.splitK [c] 0 k a=[a]:=by
 cases k with
 | zero=>rfl
 | succ k =>
  have hi:=ib_spec c a;rw[h,if_neg (by simp),←Go.Lib.index_one]at hi;rw[Go.Lib.splitK,hi];rfl
theorem splitK_size {c:UInt8}:∀(k:Nat) (s x:List UInt8),x∈Go.Lib.splitK [c] 0 k s→x.length≤s.length
 | 0,s,x,h=>by rw[List.mem_singleton.1 h];exact Nat.le_refl _
 | k+1,s,x,h=>by
  rw[Go.Lib.splitK]at h;split at h
  ·rw[List.mem_singleton.1 h];exact Nat.le_refl _
  ·rcases List.mem_cons.1 h with rfl|h
   ·rw[List.length_take];omega
   ·have:=splitK_size k _ x h;rw[List.length_drop]at this;omega
def piecesR (t:List UInt8):List (List UInt8):=Go.Lib.splitK [45] 0 (min 3 ((t++45::t).length+1)-1) (t++45::t)
theorem splitK_ne {c:List UInt8}(k:Nat)(s:List UInt8):∃b r,Go.Lib.splitK c 0 k s=b::r:=by
 cases k with
 | zero=>exact⟨_,_,rfl⟩
 | succ k=>rw[Go.Lib.splitK];split<;>exact⟨_,_,rfl⟩
theorem pieces_two (t:List UInt8):∃a b r,piecesR t=a::b::r∧a.length≤2*t.length+1∧b.length≤2*t.length+1:=by
 have hs:∀x∈piecesR t,x.length≤2*t.length+1:=fun x hx=>by
  have:=splitK_size _ _ x hx;rw[List.length_append,List.length_cons]at this;omega
 have key:∃a b r,piecesR t=a::b::r:=by
  unfold piecesR;have hc:(t++45::t).contains (45:UInt8)=true:=by rw[contains_app];simp
  have hi:=ib_spec 45 (t++45::t);rw[if_pos hc,←Go.Lib.index_one]at hi;have hk:∃k,min 3 ((t++45::t).length+1)-1=k+1:=⟨min 3 ((t++45::t).length+1)-2,by rw[List.length_append,List.length_cons];omega⟩;obtain⟨k,hk⟩:=hk;rw[hk,Go.Lib.splitK,if_neg (by rw[hi];simp;try omega)]
  obtain⟨b,r,e⟩:=splitK_ne (c:=[45]) k ((t++45::t).drop ((Go.Lib.index (t++45::t) [45]).toNat+[(45:UInt8)].length));exact⟨_,b,r,by rw[e]⟩
 obtain⟨a,b,r,e⟩:=key;exact⟨a,b,r,e,hs a (by rw[e];simp),hs b (by rw[e];simp)⟩
theorem pieces_rg {r:Rg}(h0:0≤r.1)(h1:r.1<4294967296)(h2:r.2<4294967296)(hle:r.1≤r.2):∃m,piecesR (rgP r)=hexP r.1.toNat::hexP r.2.toNat::m:=by
 have hn:=hex_no (n:=r.1.toNat) (c:=45) (by omega) (by rfl);have hn2:=hex_no (n:=r.2.toNat) (c:=45) (by omega) (by rfl);have hpos:=List.length_pos_iff.2 (rgP_ne r);have hk:min 3 ((rgP r++45::rgP r).length+1)-1=2:=by rw[List.length_append,List.length_cons];omega
 unfold piecesR;rw[hk];clear hk hpos;unfold rgP;by_cases hlt:r.1<r.2
 ·rw[if_pos hlt,List.append_assoc,List.cons_append,splitK_cut hn,splitK_cut hn2];exact⟨_,rfl⟩
 ·rw[if_neg hlt,List.append_nil,splitK_cut hn,splitK_none hn];have e:r.2=r.1:=by omega
  rw[e];exact⟨_,rfl⟩
end Cae
end
section
namespace Go.Proofs.YtodeeahdhnjpkaaGreatDoor
open Go.Vc Go.Proofs Go.RowKit Cae
attribute [local irreducible] wpL callK valK unitK runK Fun Sl Vc.Own vc vcOps opK pureK
def trimR_ren:Go.Shelf.Ren:=⟨fun|160=>112|232=>149|231=>148|227=>150|234=>152|233=>151|236=>154|235=>153|228=>179|271=>182|151=>181|197=>180|120=>210|152=>209|260=>208|137=>89|119=>231|224=>109|225=>108|217=>107|266=>144|n=>n,fun|9=>9|4=>4|3=>3|5=>5|117=>217|116=>216|0=>0|124=>220|21=>21|105=>255|46=>109|119=>211|139=>305|138=>304|n=>n,fun|3=>8|4=>9|n=>n⟩
theorem trimR:Go.Proofs.Lays.n160 Tryz.prog trimR_ren:={
 mixed:=by kernel_rfl
 f119:=Tryz.func231.trans (congrArg some (by kernel_rfl))
 f120:=Tryz.func210.trans (congrArg some (by kernel_rfl))
 f137:=Tryz.func89.trans (congrArg some (by kernel_rfl))
 f151:=Tryz.func181.trans (congrArg some (by kernel_rfl))
 f152:=Tryz.func209.trans (congrArg some (by kernel_rfl))
 f160:=Tryz.func112.trans (congrArg some (by kernel_rfl))
 f197:=Tryz.func180.trans (congrArg some (by kernel_rfl))
 f217:=Tryz.func107.trans (congrArg some (by kernel_rfl))
 f224:=Tryz.func109.trans (congrArg some (by kernel_rfl))
 f225:=Tryz.func108.trans (congrArg some (by kernel_rfl))
 f227:=Tryz.func150.trans (congrArg some (by kernel_rfl))
 f228:=Tryz.func179.trans (congrArg some (by kernel_rfl))
 f231:=Tryz.func148.trans (congrArg some (by kernel_rfl))
 f232:=Tryz.func149.trans (congrArg some (by kernel_rfl))
 f233:=Tryz.func151.trans (congrArg some (by kernel_rfl))
 f234:=Tryz.func152.trans (congrArg some (by kernel_rfl))
 f235:=Tryz.func153.trans (congrArg some (by kernel_rfl))
 f236:=Tryz.func154.trans (congrArg some (by kernel_rfl))
 f260:=Tryz.func208.trans (congrArg some (by kernel_rfl))
 f266:=Tryz.func144.trans (congrArg some (by kernel_rfl))
 f271:=Tryz.func182.trans (congrArg some (by kernel_rfl))
 t0:=Tryz.underlying0
 a0:=Tryz.isAgg0
 z0:=Tryz.sizeOf0
 v0:=Tryz.zeroValue0
 t3:=Tryz.underlying3
 a3:=Tryz.isAgg3
 z3:=Tryz.sizeOf3
 v3:=Tryz.zeroValue3
 t4:=Tryz.underlying4
 a4:=Tryz.isAgg4
 z4:=Tryz.sizeOf4
 v4:=Tryz.zeroValue4
 t5:=Tryz.underlying5
 a5:=Tryz.isAgg5
 z5:=Tryz.sizeOf5
 v5:=Tryz.zeroValue5
 t9:=Tryz.underlying9
 a9:=Tryz.isAgg9
 z9:=Tryz.sizeOf9
 v9:=Tryz.zeroValue9
 t21:=Tryz.underlying21
 a21:=Tryz.isAgg21
 z21:=Tryz.sizeOf21
 v21:=Tryz.zeroValue21
 t46:=Tryz.underlying109
 a46:=Tryz.isAgg109
 z46:=Tryz.sizeOf109
 v46:=Tryz.zeroValue109
 t105:=Tryz.underlying255
 a105:=Tryz.isAgg255
 z105:=Tryz.sizeOf255
 v105:=Tryz.zeroValue255
 t116:=Tryz.underlying216
 a116:=Tryz.isAgg216
 z116:=Tryz.sizeOf216
 t117:=Tryz.underlying217
 a117:=Tryz.isAgg217
 z117:=Tryz.sizeOf217
 v117:=Tryz.zeroValue217
 t119:=Tryz.underlying211
 a119:=Tryz.isAgg211
 z119:=Tryz.sizeOf211
 t124:=Tryz.underlying220
 a124:=Tryz.isAgg220
 z124:=Tryz.sizeOf220
 v124:=Tryz.zeroValue220
 t138:=Tryz.underlying304
 a138:=Tryz.isAgg304
 z138:=Tryz.sizeOf304
 v138:=Tryz.zeroValue304
 t139:=Tryz.underlying305
 a139:=Tryz.isAgg305
 z139:=Tryz.sizeOf305
 v139:=Tryz.zeroValue305
 g3:=by kernel_rfl
 g4:=by kernel_rfl }
def fieldsR_ren:Go.Shelf.Ren:=⟨fun|157=>111|229=>146|199=>147|261=>178|311=>206|312=>207|n=>n,fun|9=>9|31=>164|3=>3|5=>5|4=>4|119=>211|0=>0|40=>213|152=>250|21=>21|154=>252|51=>206|141=>254|196=>277|193=>274|198=>280|49=>278|194=>275|201=>283|226=>301|46=>109|227=>302|n=>n,fun|0=>4|6=>5|n=>n⟩
theorem fieldsR:Go.Proofs.Lays.n157 Tryz.prog fieldsR_ren:={
 mixed:=by kernel_rfl
 f157:=Tryz.func111.trans (congrArg some (by kernel_rfl))
 f199:=Tryz.func147.trans (congrArg some (by kernel_rfl))
 f229:=Tryz.func146.trans (congrArg some (by kernel_rfl))
 f261:=Tryz.func178.trans (congrArg some (by kernel_rfl))
 f311:=Tryz.func206.trans (congrArg some (by kernel_rfl))
 f312:=Tryz.func207.trans (congrArg some (by kernel_rfl))
 t0:=Tryz.underlying0
 a0:=Tryz.isAgg0
 z0:=Tryz.sizeOf0
 v0:=Tryz.zeroValue0
 t3:=Tryz.underlying3
 a3:=Tryz.isAgg3
 z3:=Tryz.sizeOf3
 v3:=Tryz.zeroValue3
 t4:=Tryz.underlying4
 a4:=Tryz.isAgg4
 z4:=Tryz.sizeOf4
 v4:=Tryz.zeroValue4
 t5:=Tryz.underlying5
 a5:=Tryz.isAgg5
 z5:=Tryz.sizeOf5
 v5:=Tryz.zeroValue5
 t9:=Tryz.underlying9
 a9:=Tryz.isAgg9
 z9:=Tryz.sizeOf9
 v9:=Tryz.zeroValue9
 t21:=Tryz.underlying21
 a21:=Tryz.isAgg21
 z21:=Tryz.sizeOf21
 v21:=Tryz.zeroValue21
 t31:=Tryz.underlying164
 a31:=Tryz.isAgg164
 z31:=Tryz.sizeOf164
 v31:=Tryz.zeroValue164
 t40:=Tryz.underlying213
 a40:=Tryz.isAgg213
 z40:=Tryz.sizeOf213
 v40:=Tryz.zeroValue213
 t46:=Tryz.underlying109
 a46:=Tryz.isAgg109
 z46:=Tryz.sizeOf109
 v46:=Tryz.zeroValue109
 t49:=Tryz.underlying278
 a49:=Tryz.isAgg278
 z49:=Tryz.sizeOf278
 v49:=Tryz.zeroValue278
 t51:=Tryz.underlying206
 a51:=Tryz.isAgg206
 z51:=Tryz.sizeOf206
 v51:=Tryz.zeroValue206
 t119:=Tryz.underlying211
 a119:=Tryz.isAgg211
 z119:=Tryz.sizeOf211
 t141:=Tryz.underlying254
 a141:=Tryz.isAgg254
 z141:=Tryz.sizeOf254
 v141:=Tryz.zeroValue254
 t152:=Tryz.underlying250
 a152:=Tryz.isAgg250
 z152:=Tryz.sizeOf250
 v152:=Tryz.zeroValue250
 t154:=Tryz.underlying252
 a154:=Tryz.isAgg252
 z154:=Tryz.sizeOf252
 v154:=Tryz.zeroValue252
 t193:=Tryz.underlying274
 a193:=Tryz.isAgg274
 z193:=Tryz.sizeOf274
 v193:=Tryz.zeroValue274
 t194:=Tryz.underlying275
 a194:=Tryz.isAgg275
 z194:=Tryz.sizeOf275
 v194:=Tryz.zeroValue275
 t196:=Tryz.underlying277
 a196:=Tryz.isAgg277
 z196:=Tryz.sizeOf277
 v196:=Tryz.zeroValue277
 t198:=Tryz.underlying280
 a198:=Tryz.isAgg280
 z198:=Tryz.sizeOf280
 v198:=Tryz.zeroValue280
 t201:=Tryz.underlying283
 a201:=Tryz.isAgg283
 z201:=Tryz.sizeOf283
 v201:=Tryz.zeroValue283
 t226:=Tryz.underlying301
 a226:=Tryz.isAgg301
 z226:=Tryz.sizeOf301
 v226:=Tryz.zeroValue301
 t227:=Tryz.underlying302
 a227:=Tryz.isAgg302
 z227:=Tryz.sizeOf302
 v227:=Tryz.zeroValue302
 g0:=by kernel_rfl
 g6:=by kernel_rfl }
def splitNR_ren:Go.Shelf.Ren:=⟨fun|147=>113|221=>155|268=>183|138=>184|143=>48|195=>211|197=>180|218=>212|219=>82|260=>208|217=>107|225=>108|224=>109|267=>110|266=>144|314=>145|n=>n,fun|9=>9|3=>3|31=>164|4=>4|0=>0|105=>255|21=>21|5=>5|46=>109|119=>211|139=>305|138=>304|146=>209|51=>206|n=>n,fun|1=>2|3=>8|4=>9|n=>n⟩
theorem splitNR:Go.Proofs.Lays.n147 Tryz.prog splitNR_ren:={
 mixed:=by kernel_rfl
 f138:=Tryz.func184.trans (congrArg some (by kernel_rfl))
 f143:=Tryz.func48.trans (congrArg some (by kernel_rfl))
 f147:=Tryz.func113.trans (congrArg some (by kernel_rfl))
 f195:=Tryz.func211.trans (congrArg some (by kernel_rfl))
 f197:=Tryz.func180.trans (congrArg some (by kernel_rfl))
 f217:=Tryz.func107.trans (congrArg some (by kernel_rfl))
 f218:=Tryz.func212.trans (congrArg some (by kernel_rfl))
 f219:=Tryz.func82.trans (congrArg some (by kernel_rfl))
 f221:=Tryz.func155.trans (congrArg some (by kernel_rfl))
 f224:=Tryz.func109.trans (congrArg some (by kernel_rfl))
 f225:=Tryz.func108.trans (congrArg some (by kernel_rfl))
 f260:=Tryz.func208.trans (congrArg some (by kernel_rfl))
 f266:=Tryz.func144.trans (congrArg some (by kernel_rfl))
 f267:=Tryz.func110.trans (congrArg some (by kernel_rfl))
 f268:=Tryz.func183.trans (congrArg some (by kernel_rfl))
 f314:=Tryz.func145.trans (congrArg some (by kernel_rfl))
 t0:=Tryz.underlying0
 a0:=Tryz.isAgg0
 z0:=Tryz.sizeOf0
 v0:=Tryz.zeroValue0
 t3:=Tryz.underlying3
 a3:=Tryz.isAgg3
 z3:=Tryz.sizeOf3
 v3:=Tryz.zeroValue3
 t4:=Tryz.underlying4
 a4:=Tryz.isAgg4
 z4:=Tryz.sizeOf4
 v4:=Tryz.zeroValue4
 t5:=Tryz.underlying5
 a5:=Tryz.isAgg5
 z5:=Tryz.sizeOf5
 v5:=Tryz.zeroValue5
 t9:=Tryz.underlying9
 a9:=Tryz.isAgg9
 z9:=Tryz.sizeOf9
 v9:=Tryz.zeroValue9
 t21:=Tryz.underlying21
 a21:=Tryz.isAgg21
 z21:=Tryz.sizeOf21
 v21:=Tryz.zeroValue21
 t31:=Tryz.underlying164
 a31:=Tryz.isAgg164
 z31:=Tryz.sizeOf164
 v31:=Tryz.zeroValue164
 t46:=Tryz.underlying109
 a46:=Tryz.isAgg109
 z46:=Tryz.sizeOf109
 v46:=Tryz.zeroValue109
 t51:=Tryz.underlying206
 a51:=Tryz.isAgg206
 z51:=Tryz.sizeOf206
 v51:=Tryz.zeroValue206
 t105:=Tryz.underlying255
 a105:=Tryz.isAgg255
 z105:=Tryz.sizeOf255
 v105:=Tryz.zeroValue255
 t119:=Tryz.underlying211
 a119:=Tryz.isAgg211
 z119:=Tryz.sizeOf211
 t138:=Tryz.underlying304
 a138:=Tryz.isAgg304
 z138:=Tryz.sizeOf304
 v138:=Tryz.zeroValue304
 t139:=Tryz.underlying305
 a139:=Tryz.isAgg305
 z139:=Tryz.sizeOf305
 v139:=Tryz.zeroValue305
 t146:=Tryz.underlying209
 a146:=Tryz.isAgg209
 z146:=Tryz.sizeOf209
 v146:=Tryz.zeroValue209
 g1:=by kernel_rfl
 g3:=by kernel_rfl
 g4:=by kernel_rfl }
structure Tv (w:World):Prop where
 mx:∃m,w.cell? ⟨2,0,none⟩=some (.int .i64 m)
 sp:Lib.TabIs Tryz.prog w "strings.asciiSpace" .u8 Lib.asciiSpaceTab
 wt:Lib.WhiteTab 5 w
theorem Tv.below {w w':World}(h:Tv w)(hb:Below w.heap.size w w'):Tv w' :=
 ⟨by obtain⟨m,hm⟩:=h.mx;exact⟨m,(hb.cell (World.block_lt_of_cell? _ _ hm)).trans hm⟩,TabIs_below (g:=4) (by kernel_rfl) h.sp hb,WhiteTab_below h.wt hb⟩
theorem trim_c (s:List UInt8)(hs:s.length≤1000000000)(w:World):Fun Tryz.prog 112 [str s,str [91,93]] w fun r w'=>r=str (Lib.trimS s [91,93])∧Below w.heap.size w w':=by
 refine fun_of_calls Tryz.func112 (by kernel_rfl) (by kernel_rfl) ?_;refine Calls.mono (Any.strings_Trim_laid trimR (by kernel_rfl) ⟨s.toArray⟩ ⟨[(91:UInt8),93].toArray⟩ w (by show s.length≤_;omega) (by decide) (ascii_of_all (by decide))) ?_
 rintro e w' ⟨rfl,hb⟩;exact⟨_,rfl,rfl,hb⟩
theorem fields_c (s:List UInt8)(hs:s.length≤1000000000)(w:World)(h:Tv w):Fun Tryz.prog 111 [str s] w fun r w'=>Vc.Own w.heap.size 9 1 Vc.encS w' r (Lib.fieldsD s)∧Below w.heap.size w w':=by
 refine fun_of_calls Tryz.func111 (by kernel_rfl) (by kernel_rfl) ?_;refine Calls.mono (Any.strings_Fields_any fieldsR (by kernel_rfl) (by kernel_rfl) (by kernel_rfl) ⟨s.toArray⟩ w (by show s.length<_;omega) h.sp h.wt) ?_
 rintro e w' ⟨A,rfl,hA,ho,hb⟩;refine⟨_,rfl,?_,hb⟩;unfold Vc.Own;refine⟨?_,fun _=>rfl⟩;have e:∀l:List (List UInt8),l.flatMap Vc.encS=l.map fun x=>Value.string ⟨x.toArray⟩:=by
  intro l;induction l with
  | nil=>rfl
  | cons x l ih=>rw[List.flatMap_cons,ih];rfl
 rw[e];exact ho
theorem splitN_c (t:List UInt8)(ht:t.length≤1000000000)(w:World)(h:Tv w):Fun Tryz.prog 113 [str (t++45::t),str [45],.int .i64 3] w fun r w'=>Sl (fun _=>False) 1 (En Vc.encS) w' r (piecesR t)∧Below w.heap.size w w':=by
 refine fun_of_calls Tryz.func113 (by kernel_rfl) (by kernel_rfl) ?_;obtain⟨m,hm⟩:=h.mx;refine Calls.mono (Any.strings_SplitN splitNR (by kernel_rfl) ⟨(t++45::t).toArray⟩ ⟨[(45:UInt8)].toArray⟩ 3 m w (by show (t++45::t).length<_;simp only[List.length_append,List.length_cons];omega) hm (by decide) (by decide) (by decide)) ?_
 rintro e w' ⟨rfl,rfl⟩;have hsz:(⟨(t++45::t).toArray⟩:ByteArray).size=(t++45::t).length:=rfl;rw[hsz];have hd:=Lib.splitB_data ⟨[(45:UInt8)].toArray⟩ 0 (min 3 ((t++45::t).length+1)-1) ⟨(t++45::t).toArray⟩;have hle:=Lib.splitB_length_le ⟨[(45:UInt8)].toArray⟩ 0 (min 3 ((t++45::t).length+1)-1) ⟨(t++45::t).toArray⟩;generalize hgB:Lib.splitB ⟨[(45:UInt8)].toArray⟩ 0 (min 3 ((t++45::t).length+1)-1) ⟨(t++45::t).toArray⟩=B at hd hle;have hp:B.map (fun b=>b.data.toList)=piecesR t:=hd;have hl:B.length=(piecesR t).length:=by rw[←hp,List.length_map]
 refine⟨_,rfl,?_,(Below.refl _ _).alloc (Nat.le_refl _) _⟩;rw[hl];unfold Sl;refine⟨_,_,rfl,by rw[←hl];omega,fun i x hx=>⟨w.heap.size,0,Vc.encS x,rfl,fun h=>h,rfl,fun j u hu=>?_,rfl⟩⟩;rw[←hp,List.getElem?_map]at hx;obtain⟨y,hy,hyx⟩:=Option.map_eq_some_iff.1 hx;match j,hu with
 | 0,hu =>
  cases hu;rw[World.cell?_alloc_new];subst hyx;unfold Lib.cellsOf;have hi:=(List.getElem?_eq_some_iff.1 hy).1;simp only[Nat.zero_add,Nat.mul_one,Nat.add_zero,List.getElem?_toArray];rw[List.getElem?_append_left (by rw[List.length_map];exact hi),List.getElem?_map,hy];rfl
 | j+1,hu=>cases hu
end Go.Proofs.YtodeeahdhnjpkaaGreatDoor
end
