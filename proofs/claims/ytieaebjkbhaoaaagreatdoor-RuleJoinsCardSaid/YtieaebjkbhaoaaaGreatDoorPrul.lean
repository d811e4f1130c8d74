import Derived.Test.YtieaebjkbhaoaaaGreatDoorPpar
set_option linter.unusedSimpArgs false
set_option linter.unusedVariables false
namespace Cae

/-! Rules as text: what is read, as the program reads it, in plain Lean. -/
/-- A token: what kind (1 a word, 2 a number, 3 a set, 4 a mark, 5 the end), its text, where. -/
structure Tok where
  kind : Nat
  text : List UInt8
  pos : Nat
  deriving DecidableEq
inductive KindP where
  | lit (pos : Nat) (s : List Rg)
  | ref (pos : Nat) (name : List UInt8)
  | not (pos : Nat) (l : KindP)
  | bin (code : Nat) (pos : Nat) (l r : KindP)
inductive PatP where
  | one (k : KindP)
  | any
  | edge
  | cat (l : List PatP)
  | alt (l : List PatP)
  | many (x : PatP) (lo hi : Int)
structure RuleP where
  pos : Nat
  brk : Bool
  before : PatP
  after : PatP
structure ClassP where
  name : List UInt8
  pos : Nat
  kind : KindP
structure FileP where
  classes : List ClassP
  rules : List RuleP
  els : Bool

def letterP (c : UInt8) : Bool := decide (97 ≤ c.toNat) && decide (c.toNat ≤ 122)
def digitP (c : UInt8) : Bool := decide (48 ≤ c.toNat) && decide (c.toNat ≤ 57)
def markL : List UInt8 := [61, 59, 58, 124, 38, 45, 126, 40, 41, 46, 42, 43, 63, 123, 125, 44, 36]
/-- How many bytes from the beginning on are so. -/
def runP (f : UInt8 → Bool) (s : List UInt8) : Nat := (s.takeWhile f).length
/-- What stands at a text's beginning: its kind, its length (0: nothing). -/
def nextT (s : List UInt8) : Nat × Nat :=
  let c := s.headD 0
  if letterP c then (1, runP (fun c => letterP c || digitP c) s)
  else if digitP c then (2, runP digitP s)
  else if c = 91 then (3, if s.contains 93 then runP (· != 93) s + 1 else 0)
  else if markL.contains c then (4, 1)
  else (4, 0)
/-- The tokens of a text, from a place on; or what is wrong, and where. -/
def tokLoop : Nat → Nat → List UInt8 → List Tok → Except (Nat × Nat) (List Tok)
  | 0, i, s, acc => .error (0, 0)
  | n + 1, i, [], acc => .ok (acc ++ [⟨5, [], i⟩])
  | n + 1, i, c :: r, acc =>
    if c = 32 ∨ c = 10 then tokLoop n (i + 1) r acc
    else if c = 35 then tokLoop n (i + runP (· != 10) (c :: r)) ((c :: r).drop (runP (· != 10) (c :: r))) acc
    else if (nextT (c :: r)).2 = 0 then .error (3, i)
    else if acc.length = 500 then .error (4, i)
    else tokLoop n (i + (nextT (c :: r)).2) ((c :: r).drop (nextT (c :: r)).2) (acc ++ [⟨(nextT (c :: r)).1, (c :: r).take (nextT (c :: r)).2, i⟩])
def tokP (s : List UInt8) : Except (Nat × Nat) (List Tok) := tokLoop (s.length + 1) 0 s []

/-- The set that a text is. -/
def setP (s : List UInt8) : Option (List Rg) :=
  let body := (s.drop 1).dropLast
  let l : List Rg := if body = [] then [] else (splitB 32 body).map fun p => (((hexV (cutP 45 p).1 : Nat) : Int), if (cutP 45 p).2.2 then ((hexV (cutP 45 p).2.1 : Nat) : Int) else ((hexV (cutP 45 p).1 : Nat) : Int))
  if setRight (-2) l && printP l == s then some l else none

/-- What reads tokens: what it reads, and those that are left; or what is wrong, and where. -/
abbrev Pa (α : Type) := List Tok → Except (Nat × Nat) (α × List Tok)
def hd (l : List Tok) : Tok := l.headD ⟨5, [], 0⟩
/-- One behind the other. -/
def pb {α β : Type} (p : Pa α) (q : α → Pa β) : Pa β := fun l => match p l with
  | .error e => .error e
  | .ok (x, l') => q x l'
def pr {α : Type} (x : α) : Pa α := fun l => .ok (x, l)
def pfail {α : Type} (e : Nat) : Pa α := fun l => .error (e, (hd l).pos)
def pif {α : Type} (c : List Tok → Bool) (p q : Pa α) : Pa α := fun l => if c l then p l else q l
def peek : Pa Tok := fun l => .ok (hd l, l)
def popP : Pa Unit := fun l => match l with
  | [] => .error (0, 0)
  | t :: r => if t.kind = 5 then .error (0, 0) else .ok ((), r)
def isKind (k : Nat) (l : List Tok) : Bool := (hd l).kind == k
def seeP (s : List UInt8) (l : List Tok) : Bool := (hd l).kind != 5 && (hd l).text == s
def mustP (s : List UInt8) : Pa Unit := pif (seeP s) popP (pfail 3)
def keptP (s : List UInt8) : Bool := s == [99, 108, 97, 115, 115] || s == [98, 114, 101, 97, 107] || s == [107, 101, 101, 112] || s == [101, 108, 115, 101]
def namedP (l : List Tok) : Bool := (hd l).kind == 1 && !keptP (hd l).text
def longP (l : List Tok) : Bool := decide (10 < (hd l).text.length)
def nameP : Pa (List UInt8) := pif namedP (pif longP (pfail 4) (pb peek fun t => pb popP fun _ => pr t.text)) (pfail 3)
/-- Which mark of two kinds is next (0: none). -/
def binP : Pa Nat := pif (seeP [124]) (pb popP fun _ => pr 3) (pif (seeP [38]) (pb popP fun _ => pr 4) (pif (seeP [45]) (pb popP fun _ => pr 5) (pr 0)))
def kindLoop (one : Pa KindP) (pos : Nat) : Nat → KindP → Pa KindP
  | 0, k => pfail 0
  | n + 1, k => pb binP fun c => if c = 0 then pr k else pb one fun r => kindLoop one pos n (.bin c pos k r)
def kindW (one : Pa KindP) : Pa KindP := pb peek fun t => pb one fun k => kindLoop one t.pos 1000 k
def litP : Pa KindP := pb peek fun t => match setP t.text with
  | none => pfail 3
  | some s => pb popP fun _ => pr (.lit t.pos s)
/-- A set, a name, what is not one, or a kind in parentheses: so many deep yet. -/
def oneP : Nat → Pa KindP
  | 0 => pfail 4
  | d + 1 => pif (isKind 3) litP (pif (seeP [126]) (pb peek fun t => pb popP fun _ => pb (oneP d) fun k => pr (.not t.pos k))
    (pif (seeP [40]) (pb popP fun _ => pb (kindW (oneP d)) fun k => pb (mustP [41]) fun _ => pr k)
      (pb peek fun t => pb nameP fun n => pr (.ref t.pos n))))
def kindP (d : Nat) : Pa KindP := kindW (oneP d)

def decV (s : List UInt8) : Nat := s.foldl (fun m b => 10 * m + (b.toNat - 48)) 0
def timesP : Pa Nat := pif (isKind 2) (pb peek fun t => if 12 < decV t.text then pfail 4 else pb popP fun _ => pr (decV t.text)) (pfail 3)
/-- How often: what stands behind a part. -/
def bracesP : Pa (Int × Int) := pb timesP fun lo => pif (seeP [44])
  (pb popP fun _ => pif (isKind 2)
    (pb timesP fun hi => if hi < lo then pfail 2 else pb (mustP [125]) fun _ => pr ((lo : Int), (hi : Int)))
    (pb (mustP [125]) fun _ => pr ((lo : Int), -1)))
  (pb (mustP [125]) fun _ => pr ((lo : Int), (lo : Int)))
def suffixP : Pa (Option (Int × Int)) :=
  pif (seeP [42]) (pb popP fun _ => pr (some (0, -1)))
  (pif (seeP [43]) (pb popP fun _ => pr (some (1, -1)))
  (pif (seeP [63]) (pb popP fun _ => pr (some (0, 1)))
  (pif (seeP [123]) (pb popP fun _ => pb bracesP fun r => pr (some r)) (pr none))))
def againLoop (d : Nat) : Nat → Nat → PatP → Pa PatP
  | 0, c, x => pfail 0
  | n + 1, c, x => pb suffixP fun r => match r with
    | none => pr x
    | some q => if d ≤ c + 1 then pfail 4 else againLoop d n (c + 1) (.many x q.1 q.2)
def againW (d : Nat) (unit : Pa PatP) : Pa PatP := pb unit fun x => againLoop d 1000 0 x
def startP (l : List Tok) : Bool := isKind 3 l || namedP l || seeP [46] l || seeP [36] l || seeP [40] l
def rowLoop (again : Pa PatP) : Nat → List PatP → Pa (List PatP)
  | 0, acc => pfail 0
  | n + 1, acc => pif startP (pb again fun x => rowLoop again n (acc ++ [x])) (pr acc)
def rowOf : List PatP → PatP
  | [x] => x
  | l => .cat l
def altOf : List PatP → PatP
  | [x] => x
  | l => .alt l
def rowW (again : Pa PatP) : Pa PatP := pb (rowLoop again 1000 []) fun ps => pr (rowOf ps)
def altLoop (row : Pa PatP) : Nat → List PatP → Pa (List PatP)
  | 0, acc => pfail 0
  | n + 1, acc => pif (seeP [124]) (pb popP fun _ => pb row fun x => altLoop row n (acc ++ [x])) (pr acc)
def altW (row : Pa PatP) : Pa PatP := pb row fun x => pb (altLoop row 1000 [x]) fun ps => pr (altOf ps)
/-- A pattern, over the units of a depth. -/
def patW (d : Nat) (unit : Pa PatP) : Pa PatP := if d = 0 then pfail 4 else altW (rowW (againW d unit))
def unitStart (l : List Tok) : Bool := isKind 3 l || namedP l
def unitP : Nat → Pa PatP
  | 0 => pfail 4
  | d + 1 => pif (seeP [46]) (pb popP fun _ => pr .any)
    (pif (seeP [36]) (pb popP fun _ => pr .edge)
    (pif (seeP [40]) (pb popP fun _ => pb (patW d (unitP d)) fun x => pb (mustP [41]) fun _ => pr x)
    (pif unitStart (pb (oneP (d + 1)) fun k => pr (.one k)) (pfail 3))))
def patP (d : Nat) : Pa PatP := patW d (unitP d)

def classP : Pa ClassP := pb peek fun t => pb (mustP [99, 108, 97, 115, 115]) fun _ => pb nameP fun n => pb (mustP [61]) fun _ => pb (kindP 9) fun k => pb (mustP [59]) fun _ => pr ⟨n, t.pos, k⟩
def classLoop : Nat → List ClassP → Pa (List ClassP)
  | 0, acc => pfail 0
  | n + 1, acc => pif (seeP [99, 108, 97, 115, 115]) (if acc.length = 20 then pfail 4 else pb classP fun c => classLoop n (acc ++ [c])) (pr acc)
/-- break, or keep. -/
def saysP : Pa Bool := pif (seeP [98, 114, 101, 97, 107]) (pb popP fun _ => pr true) (pb (mustP [107, 101, 101, 112]) fun _ => pr false)
def ruleP : Pa RuleP := pb peek fun t => pb saysP fun b => pb (patP 9) fun x => pb (mustP [58]) fun _ => pb (patP 9) fun y => pb (mustP [59]) fun _ => pr ⟨t.pos, b, x, y⟩
def ruleStart (l : List Tok) : Bool := seeP [98, 114, 101, 97, 107] l || seeP [107, 101, 101, 112] l
def ruleLoop : Nat → List RuleP → Pa (List RuleP)
  | 0, acc => pfail 0
  | n + 1, acc => pif ruleStart (if acc.length = 20 then pfail 4 else pb ruleP fun r => ruleLoop n (acc ++ [r])) (pr acc)
def elseP : Pa Bool := pif (seeP [101, 108, 115, 101]) (pb popP fun _ => pb saysP fun b => pb (mustP [59]) fun _ => pr b) (pr true)
def fileP : Pa FileP := pb (classLoop 1000 []) fun cs => pb (ruleLoop 1000 []) fun rs => pb elseP fun b => pr ⟨cs, rs, b⟩
/-- The file that a text is; or what is wrong, and where. -/
def parseR (s : List UInt8) : Except (Nat × Nat) FileP := match tokP s with
  | .error e => .error e
  | .ok l => match fileP l with
    | .error e => .error e
    | .ok (f, l') => if isKind 5 l' then .ok f else .error (3, (hd l').pos)

/-! How a file is written. -/
def kindText : KindP → Bool → List UInt8
  | .lit _ s, _ => printP s
  | .ref _ n, _ => n
  | .not _ l, _ => 126 :: kindText l true
  | .bin c _ l r, alone =>
    let m : List UInt8 := if c = 3 then [32, 124, 32] else if c = 4 then [32, 38, 32] else [32, 45, 32]
    let s := kindText l false ++ m ++ kindText r true
    if alone then 40 :: (s ++ [41]) else s
/-- A number below a hundred, in decimal digits. -/
def decP (n : Nat) : List UInt8 := if n < 10 then [dig n] else if n < 100 then [dig (n / 10), dig (n % 10)] else []
def timesText (lo hi : Int) : List UInt8 :=
  if lo = 0 ∧ hi < 0 then [42] else if lo = 1 ∧ hi < 0 then [43] else if lo = 0 ∧ hi = 1 then [63]
  else if hi < 0 then 123 :: (decP lo.toNat ++ [44, 125])
  else if hi = lo then 123 :: (decP lo.toNat ++ [125])
  else 123 :: (decP lo.toNat ++ 44 :: (decP hi.toNat ++ [125]))
def inPar (b : Bool) (s : List UInt8) : List UInt8 := if b then 40 :: (s ++ [41]) else s
mutual
def patText : PatP → Nat → List UInt8
  | .one k, _ => kindText k true
  | .any, _ => [46]
  | .edge, _ => [36]
  | .cat l, least => inPar (decide (1 < least)) (Go.Lib.join (patTexts l 2) [32])
  | .alt l, least => inPar (decide (0 < least)) (Go.Lib.join (patTexts l 1) [32, 124, 32])
  | .many x lo hi, _ => patText x 2 ++ timesText lo hi
def patTexts : List PatP → Nat → List (List UInt8)
  | [], _ => []
  | x :: l, least => patText x least :: patTexts l least
end
def classText (c : ClassP) : List UInt8 := [99, 108, 97, 115, 115, 32] ++ c.name ++ [32, 61, 32] ++ kindText c.kind false ++ [59, 10]
def ruleText (r : RuleP) : List UInt8 :=
  (if r.brk then [98, 114, 101, 97, 107, 32] else [107, 101, 101, 112, 32])
    ++ (if patText r.before 0 = [] then [] else patText r.before 0 ++ [32]) ++ [58] ++ (if patText r.after 0 = [] then [] else 32 :: patText r.after 0) ++ [59, 10]
def elseText (b : Bool) : List UInt8 := if b then [] else [101, 108, 115, 101, 32, 107, 101, 101, 112, 59, 10]
def fileText (f : FileP) : List UInt8 := (f.classes.flatMap classText) ++ (f.rules.flatMap ruleText) ++ elseText f.els

/-- A fact: how a file is written. -/
def factR : List UInt8 := "class a=[61-7a]-[65];#x\nkeep a(a|.)* : ( a ){2,} ;else keep;".toUTF8.data.toList
def factW : List UInt8 := "class a = [61-7a] - [65];\nkeep a (a | .)* : a{2,};\nelse keep;\n".toUTF8.data.toList
end Cae
