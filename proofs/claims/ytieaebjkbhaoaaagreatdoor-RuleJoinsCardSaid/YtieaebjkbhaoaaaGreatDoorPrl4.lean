import Derived.Test.YtieaebjkbhaoaaaGreatDoorRq6
import Derived.Test.YtieaebjkbhaoaaaGreatDoorRpc
set_option linter.unusedSimpArgs false
set_option linter.unusedVariables false
namespace Cae

/-! What was read can be written. -/
def TB (l : List Tok) : Prop := ∀ t ∈ l, t.text.length ≤ 1000000
def Iv {α : Type} (I : α → Prop) (p : Pa α) : Prop := ∀ l x l', TB l → p l = .ok (x, l') → I x ∧ TB l'
section
variable {α β : Type} {I : α → Prop} {J : β → Prop} {p : Pa α} {q : α → Pa β}
theorem Iv.pr {x : α} (h : I x) : Iv I (pr x) := fun l y l' hl e => by cases e; exact ⟨h, hl⟩
theorem Iv.fail {e : Nat} : Iv I (pfail e) := fun l y l' _ h => by cases h
theorem Iv.weak {I' : α → Prop} (h : Iv I p) (hm : ∀ x, I x → I' x) : Iv I' p := fun l x l' hl e => by have := h l x l' hl e; exact ⟨hm x this.1, this.2⟩
theorem Iv.pb (h : Iv I p) (k : ∀ x, I x → Iv J (q x)) : Iv J (pb p q) := fun l y l' hl e => by
  obtain ⟨x, l1, e1, e2⟩ := pb_ok e
  obtain ⟨h1, h2⟩ := h l x l1 hl e1
  exact k x h1 l1 y l' h2 e2
theorem Iv.pif {cc : List Tok → Bool} {p1 p2 : Pa α} (h1 : Iv I p1) (h2 : Iv I p2) : Iv I (pif cc p1 p2) := fun l x l' hl e => by
  unfold Cae.pif at e
  split at e
  · exact h1 l x l' hl e
  · exact h2 l x l' hl e
theorem Iv.ite {c : Prop} [Decidable c] {p1 p2 : Pa α} (h1 : c → Iv I p1) (h2 : ¬ c → Iv I p2) : Iv I (if c then p1 else p2) := by
  by_cases h : c
  · rw [if_pos h]; exact h1 h
  · rw [if_neg h]; exact h2 h
end
def Tv {α : Type} (_ : α) : Prop := True
theorem Iv.peek : Iv (fun t => t.text.length ≤ 1000000) peek := fun l x l' hl e => by
  cases e
  refine ⟨?_, hl⟩
  cases l with
  | nil => simp [hd]
  | cons t r => exact hl t (List.mem_cons_self ..)
theorem Iv.pop : Iv Tv popP := fun l x l' hl e => by
  obtain ⟨t, rfl, _⟩ := pop_ok e
  exact ⟨trivial, fun y hy => hl y (List.mem_cons_of_mem _ hy)⟩
theorem iv_must (s : List UInt8) : Iv Tv (mustP s) := Iv.pif Iv.pop Iv.fail
theorem iv_name : Iv Tv nameP := Iv.pif (Iv.pif Iv.fail (Iv.pb Iv.peek fun t _ => Iv.pb Iv.pop fun _ _ => Iv.pr trivial)) Iv.fail
theorem iv_bin : Iv (fun c => c = 0 ∨ c = 3 ∨ c = 4 ∨ c = 5) binP :=
  Iv.pif (Iv.pb Iv.pop fun _ _ => Iv.pr (by simp)) (Iv.pif (Iv.pb Iv.pop fun _ _ => Iv.pr (by simp)) (Iv.pif (Iv.pb Iv.pop fun _ _ => Iv.pr (by simp)) (Iv.pr (by simp))))
theorem iv_kindLoop {one : Pa KindP} (h : Iv KindOk one) (pos : Nat) : ∀ (n : Nat) (k : KindP), KindOk k → Iv KindOk (kindLoop one pos n k)
  | 0, k, _ => Iv.fail
  | n + 1, k, hk => Iv.pb iv_bin fun c hc => Iv.ite (fun _ => Iv.pr hk) fun hc0 => Iv.pb h fun r hr => iv_kindLoop h pos n _ ⟨hk, hr, by rcases hc with hc | hc; exact absurd hc hc0; exact hc⟩
theorem iv_kindW {one : Pa KindP} (h : Iv KindOk one) : Iv KindOk (kindW one) := Iv.pb Iv.peek fun t _ => Iv.pb h fun k hk => iv_kindLoop h _ _ _ hk
theorem iv_lit : Iv KindOk litP := Iv.pb Iv.peek fun t ht => by
  cases hs : setP t.text with
  | none => exact Iv.fail
  | some s =>
    refine Iv.pb Iv.pop fun _ _ => Iv.pr ?_
    have h1 := setP_ok hs
    refine ⟨h1.1, ?_⟩
    have h2 : printP s = t.text := h1.2
    have h3 := (join_bounds (s.map rgP) [32] (by decide)).2
    have h4 : (printP s).length = (Go.Lib.join (s.map rgP) [32]).length + 2 := by simp [printP]
    rw [h2] at h4
    rw [List.length_map] at h3
    omega
theorem iv_one : ∀ d, Iv KindOk (oneP d)
  | 0 => Iv.fail
  | d + 1 => Iv.pif iv_lit (Iv.pif (Iv.pb Iv.peek fun t _ => Iv.pb Iv.pop fun _ _ => Iv.pb (iv_one d) fun k hk => Iv.pr hk)
      (Iv.pif (Iv.pb Iv.pop fun _ _ => Iv.pb (iv_kindW (iv_one d)) fun k hk => Iv.pb (iv_must _) fun _ _ => Iv.pr hk)
        (Iv.pb Iv.peek fun t _ => Iv.pb iv_name fun n _ => Iv.pr trivial)))
theorem iv_times : Iv (fun n => n ≤ 12) timesP := Iv.pif (Iv.pb Iv.peek fun t _ => Iv.ite (fun _ => Iv.fail) fun h => Iv.pb Iv.pop fun _ _ => Iv.pr (by omega)) Iv.fail
def RgOk (q : Int × Int) : Prop := 0 ≤ q.1 ∧ q.1 < 100 ∧ q.2 < 100
theorem iv_braces : Iv RgOk bracesP := Iv.pb iv_times fun lo hlo => Iv.pif (Iv.pb Iv.pop fun _ _ => Iv.pif
    (Iv.pb iv_times fun hi hhi => Iv.ite (fun _ => Iv.fail) fun _ => Iv.pb (iv_must _) fun _ _ => Iv.pr ⟨by show 0 ≤ (lo : Int); omega, by show (lo : Int) < 100; omega, by show (hi : Int) < 100; omega⟩)
    (Iv.pb (iv_must _) fun _ _ => Iv.pr ⟨by show 0 ≤ (lo : Int); omega, by show (lo : Int) < 100; omega, by show (-1 : Int) < 100; omega⟩))
  (Iv.pb (iv_must _) fun _ _ => Iv.pr ⟨by show 0 ≤ (lo : Int); omega, by show (lo : Int) < 100; omega, by show (lo : Int) < 100; omega⟩)
theorem iv_suffix : Iv (fun o => ∀ q, o = some q → RgOk q) suffixP := by
  have h : ∀ r : Int × Int, RgOk r → Iv (fun o => ∀ q, o = some q → RgOk q) (pb popP fun _ => pr (some r)) := fun r hr => Iv.pb Iv.pop fun _ _ => Iv.pr (by intro q e; cases e; exact hr)
  refine Iv.pif (h _ (by unfold RgOk; decide)) (Iv.pif (h _ (by unfold RgOk; decide)) (Iv.pif (h _ (by unfold RgOk; decide)) (Iv.pif ?_ (Iv.pr (by intro q e; cases e)))))
  exact Iv.pb Iv.pop fun _ _ => Iv.pb iv_braces fun r hr => Iv.pr (by intro q e; cases e; exact hr)
theorem iv_againLoop (d : Nat) : ∀ (n c : Nat) (x : PatP), PatOk x → Iv PatOk (againLoop d n c x)
  | 0, _, _, _ => Iv.fail
  | n + 1, c, x, hx => Iv.pb iv_suffix fun r hr => by
      cases r with
      | none => exact Iv.pr hx
      | some q =>
        have hq := hr q rfl
        refine Iv.ite (fun _ => Iv.fail) fun _ => iv_againLoop d n (c + 1) _ ?_
        simp only [PatOk]
        exact ⟨hx, hq.1, hq.2.1, hq.2.2⟩
theorem iv_againW {d : Nat} {unit : Pa PatP} (h : Iv PatOk unit) : Iv PatOk (againW d unit) := Iv.pb h fun x hx => iv_againLoop d _ _ _ hx
theorem patsOk_snoc : ∀ {l : List PatP} {x : PatP}, PatsOk l → PatOk x → PatsOk (l ++ [x])
  | [], x, _, h => by simp only [List.nil_append, PatsOk]; exact ⟨h, trivial⟩
  | y :: l, x, hl, h => by
    simp only [PatsOk, List.cons_append] at hl ⊢
    exact ⟨hl.1, patsOk_snoc hl.2 h⟩
theorem patsOk_nil : PatsOk [] := by simp only [PatsOk]
theorem iv_rowLoop {again : Pa PatP} (h : Iv PatOk again) : ∀ (n : Nat) (a : List PatP), PatsOk a → Iv PatsOk (rowLoop again n a)
  | 0, _, _ => Iv.fail
  | n + 1, a, ha => Iv.pif (Iv.pb h fun x hx => iv_rowLoop h n _ (patsOk_snoc ha hx)) (Iv.pr ha)
theorem rowOf_ok {l : List PatP} (h : PatsOk l) : PatOk (rowOf l) := by
  match l with
  | [] => simp only [rowOf, PatOk]; exact h
  | [x] => simp only [PatsOk] at h; exact h.1
  | x :: y :: l => simp only [rowOf, PatOk]; exact h
theorem altOf_ok {l : List PatP} (h : PatsOk l) : PatOk (altOf l) := by
  match l with
  | [] => simp only [altOf, PatOk]; exact h
  | [x] => simp only [PatsOk] at h; exact h.1
  | x :: y :: l => simp only [altOf, PatOk]; exact h
theorem iv_rowW {again : Pa PatP} (h : Iv PatOk again) : Iv PatOk (rowW again) := Iv.pb (iv_rowLoop h _ _ patsOk_nil) fun ps hps => Iv.pr (rowOf_ok hps)
theorem iv_altLoop {row : Pa PatP} (h : Iv PatOk row) : ∀ (n : Nat) (a : List PatP), PatsOk a → Iv PatsOk (altLoop row n a)
  | 0, _, _ => Iv.fail
  | n + 1, a, ha => Iv.pif (Iv.pb Iv.pop fun _ _ => Iv.pb h fun x hx => iv_altLoop h n _ (patsOk_snoc ha hx)) (Iv.pr ha)
theorem iv_altW {row : Pa PatP} (h : Iv PatOk row) : Iv PatOk (altW row) := Iv.pb h fun x hx => Iv.pb (iv_altLoop h _ _ (patsOk_snoc patsOk_nil hx)) fun ps hps => Iv.pr (altOf_ok hps)
theorem iv_patW {d : Nat} {unit : Pa PatP} (h : Iv PatOk unit) : Iv PatOk (patW d unit) := Iv.ite (fun _ => Iv.fail) fun _ => iv_altW (iv_rowW (iv_againW h))
theorem iv_unit : ∀ d, Iv PatOk (unitP d)
  | 0 => Iv.fail
  | d + 1 => Iv.pif (Iv.pb Iv.pop fun _ _ => Iv.pr (by simp only [PatOk])) (Iv.pif (Iv.pb Iv.pop fun _ _ => Iv.pr (by simp only [PatOk]))
      (Iv.pif (Iv.pb Iv.pop fun _ _ => Iv.pb (iv_patW (iv_unit d)) fun x hx => Iv.pb (iv_must _) fun _ _ => Iv.pr hx)
        (Iv.pif (Iv.pb (iv_one (d + 1)) fun k hk => Iv.pr (by simp only [PatOk]; exact hk)) Iv.fail)))
theorem iv_pat (d : Nat) : Iv PatOk (patP d) := iv_patW (iv_unit d)
theorem iv_says : Iv Tv saysP := Iv.pif (Iv.pb Iv.pop fun _ _ => Iv.pr trivial) (Iv.pb (iv_must _) fun _ _ => Iv.pr trivial)
theorem iv_rule : Iv (fun r => PatOk r.before ∧ PatOk r.after) ruleP := Iv.pb Iv.peek fun t _ => Iv.pb iv_says fun b _ => Iv.pb (iv_pat 9) fun x hx => Iv.pb (iv_must _) fun _ _ => Iv.pb (iv_pat 9) fun y hy => Iv.pb (iv_must _) fun _ _ => Iv.pr ⟨hx, hy⟩
theorem iv_class : Iv (fun c => KindOk c.kind) classP := Iv.pb Iv.peek fun t _ => Iv.pb (iv_must _) fun _ _ => Iv.pb iv_name fun n _ => Iv.pb (iv_must _) fun _ _ => Iv.pb (iv_kindW (iv_one 9)) fun k hk => Iv.pb (iv_must _) fun _ _ => Iv.pr hk
theorem iv_ruleLoop : ∀ (n : Nat) (acc : List RuleP), acc.length ≤ 20 ∧ (∀ r ∈ acc, PatOk r.before ∧ PatOk r.after) → Iv (fun l => l.length ≤ 20 ∧ ∀ r ∈ l, PatOk r.before ∧ PatOk r.after) (ruleLoop n acc)
  | 0, _, _ => Iv.fail
  | n + 1, acc, ha => Iv.pif (Iv.ite (fun _ => Iv.fail) fun h => Iv.pb iv_rule fun r hr => iv_ruleLoop n _ ⟨by have := ha.1; rw [List.length_append, List.length_singleton]; omega, fun x hx => by
      rcases List.mem_append.1 hx with hx | hx
      · exact ha.2 x hx
      · rw [List.mem_singleton.1 hx]; exact hr⟩) (Iv.pr ha)
theorem iv_classLoop : ∀ (n : Nat) (acc : List ClassP), acc.length ≤ 20 ∧ (∀ c ∈ acc, KindOk c.kind) → Iv (fun l => l.length ≤ 20 ∧ ∀ c ∈ l, KindOk c.kind) (classLoop n acc)
  | 0, _, _ => Iv.fail
  | n + 1, acc, ha => Iv.pif (Iv.ite (fun _ => Iv.fail) fun h => Iv.pb iv_class fun r hr => iv_classLoop n _ ⟨by have := ha.1; rw [List.length_append, List.length_singleton]; omega, fun x hx => by
      rcases List.mem_append.1 hx with hx | hx
      · exact ha.2 x hx
      · rw [List.mem_singleton.1 hx]; exact hr⟩) (Iv.pr ha)
theorem iv_file : Iv (fun f => FileOk f ∧ f.classes.length ≤ 20 ∧ f.rules.length ≤ 20) fileP := Iv.pb (iv_classLoop _ _ ⟨by simp, by simp⟩) fun cs hcs => Iv.pb (iv_ruleLoop _ _ ⟨by simp, by simp⟩) fun rs hrs =>
  Iv.pb (I := Tv) (fun l x l' hl e => ⟨trivial, (show Iv Tv elseP from Iv.pif (Iv.pb Iv.pop fun _ _ => Iv.pb iv_says fun _ _ => Iv.pb (iv_must _) fun _ _ => Iv.pr trivial) (Iv.pr trivial)) l x l' hl e |>.2⟩) fun b _ => Iv.pr ⟨⟨hcs.2, hrs.2⟩, hcs.1, hrs.1⟩
end Cae
namespace Go.Proofs.YtieaebjkbhaoaaaGreatDoor
open Go.Vc Go.Proofs Go.RowKit Cae
set_option maxRecDepth 100000
set_option linter.unusedSimpArgs false
set_option linter.unusedVariables false
attribute [local irreducible] wpL callK valK unitK runK Fun Sl Own vc vcOps opK pureK
theorem parse_ok {s : List UInt8} {f : FileP} (hs : s.length ≤ 1000000) (h : parseR s = .ok f) : FileOk f ∧ f.classes.length ≤ 20 ∧ f.rules.length ≤ 20 := by
  unfold parseR at h
  split at h
  · cases h
  · rename_i l hl
    have htl := tl_of hs hl
    split at h
    · cases h
    · rename_i f' l' hf
      split at h
      · cases h
        exact (iv_file _ _ _ htl.txt hf).1
      · cases h
end Go.Proofs.YtieaebjkbhaoaaaGreatDoor
