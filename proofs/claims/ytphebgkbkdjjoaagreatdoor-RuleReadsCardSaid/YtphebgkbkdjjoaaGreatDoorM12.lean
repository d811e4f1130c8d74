/- Texts of this claim, merged: Rtk, Phi, Rtx, Rtp, Rq3, Rq4, Rq5, Rq6, Rrd. -/
import Derived.Test.YtphebgkbkdjjoaaGreatDoorM11
import Derived.Test.YtphebgkbkdjjoaaGreatDoorM7
import Derived.Shelf.Strconv.Itoa3
import Derived.Lib.AppendIntMem
import Derived.Shelf.Unicode.PredsPay
import Derived.Test.YtphebgkbkdjjoaaGreatDoorM4
import Derived.Shelf.Strings.BuilderK
section
/- The reference's text of a kind. -/
namespace Go.Proofs.YtphebgkbkdjjoaaGreatDoor
open Go.Vc Go.Proofs Go.RowKit Cae
set_option maxRecDepth 100000
set_option linter.unusedSimpArgs false
set_option linter.unusedVariables false
attribute [local irreducible] wpL callK valK unitK runK Fun Sl Vc.Own vc vcOps opK pureK
set_option maxHeartbeats 8000000
theorem rkindText_c : ∀ (k : KindP), KindOk k → ∀ (two : Bool), (kindText k true).length ≤ 1000000000 → ∀ (X : Nat → Prop) (v : Value) (w : World), KindV X w v k → Db w →
    Fun Tryz.prog 32 [v, .bool two] w fun r w' => r = str (kindText k (!two)) ∧ Below w.heap.size w w' := by
  intro k
  induction k with
  | lit pos s =>
    rintro hok two hlen X v w ⟨b, sv, rfl, hb, hB, hs, _⟩ hd
    have d0 : w.cell? ⟨b, 0, none⟩ = some (.int .i64 1) := hB.cell rfl
    have d2 : w.cell? ⟨b, 2, none⟩ = some sv := hB.cell rfl
    obtain ⟨_, _, rfl, _⟩ := hs.shape
    (refine fun_of_vc Tryz.func32 rfl (by kernel_rfl) [4] rfl ?_; push_cast -dsimp (maxSteps := 4000000) [Tryz.ntmps32])
    push_cast -dsimp [d0, d2]
    refine callK_of (setTextR_c s hok.2 hok.1 X _ w hs hd) ?_
    rintro _ w2 ⟨rfl, hb2⟩
    push_cast -dsimp
    exact ⟨rfl, hb2⟩
  | ref pos n =>
    rintro hok two hlen X v w ⟨b, rfl, hb, hB⟩ hd
    have d0 : w.cell? ⟨b, 0, none⟩ = some (.int .i64 2) := hB.cell rfl
    have d3 : w.cell? ⟨b, 3, none⟩ = some (str n) := hB.cell rfl
    (refine fun_of_vc Tryz.func32 rfl (by kernel_rfl) [4] rfl ?_; push_cast -dsimp (maxSteps := 4000000) [Tryz.ntmps32])
    push_cast -dsimp [d0, d3]
    exact ⟨rfl, Below.refl _ _⟩
  | not pos k ih =>
    rintro hok two hlen X v w ⟨b, u, rfl, hb, hB, h1⟩ hd
    obtain ⟨b1, rfl, hb1⟩ := h1.ptr
    have d0 : w.cell? ⟨b, 0, none⟩ = some (.int .i64 6) := hB.cell rfl
    have d4 : w.cell? ⟨b, 4, none⟩ = some (.pointer (some ⟨b1, 0, none⟩)) := hB.cell rfl
    have hl : (kindText k true).length + 1 = (kindText (.not pos k) true).length := by simp [kindText]
    (refine fun_of_vc Tryz.func32 rfl (by kernel_rfl) [4] rfl ?_; push_cast -dsimp (maxSteps := 4000000) [Tryz.ntmps32])
    push_cast -dsimp [d0, d4]
    refine callK_of (ih hok false (by omega) X _ w h1 hd) ?_
    rintro _ w2 ⟨rfl, hb2⟩
    rw [Bool.not_false]
    push_cast -dsimp
    exact ⟨by omega, rfl, hb2⟩
  | bin c pos k r ih1 ih2 =>
    rintro hok two hlen X v w ⟨b, u, x, rfl, hb, hB, h1, h2⟩ hd
    obtain ⟨b1, rfl, hb1⟩ := h1.ptr
    obtain ⟨b2, rfl, hb2⟩ := h2.ptr
    have k1 := kt_len k
    have k2 := kt_len r
    have hl : (kindText (.bin c pos k r) true).length = (kindText k false).length + (kindText r true).length + 5 := by
      rcases hok.2.2 with rfl | rfl | rfl <;> simp [kindText] <;> omega
    rcases hok.2.2 with rfl | rfl | rfl
    · have d0 : w.cell? ⟨b, 0, none⟩ = some (.int .i64 3) := hB.cell rfl
      (refine fun_of_vc Tryz.func32 rfl (by kernel_rfl) [4] rfl ?_; push_cast -dsimp (maxSteps := 4000000) [Tryz.ntmps32])
      push_cast -dsimp [d0]
      refine wpL_draw (fun w' => Below w.drew.heap.size w.drew w') mixed (by kernel_rfl) (Below.refl _ _) ?_
      have Bd := hB.drew
      have d4 : w.drew.cell? ⟨b, 4, none⟩ = some (.pointer (some ⟨b1, 0, none⟩)) := Bd.cell rfl
      push_cast -dsimp [d4]
      refine ⟨fun w'' h => by rw [show w''.cell? ⟨b, 4, none⟩ = some (.pointer (some ⟨b1, 0, none⟩)) from (Bd.below h Bd.lt).cell rfl]; exact rfl, ?_⟩
      refine callK_of (ih1 hok.1 true (by omega) X _ w.drew (h1.drew) hd) ?_
      rintro _ w2 ⟨rfl, hb2⟩
      refine ⟨hb2, ?_⟩
      have B2 := Bd.below hb2 Bd.lt
      have d52 : w2.cell? ⟨b, 5, none⟩ = some (.pointer (some ⟨b2, 0, none⟩)) := B2.cell rfl
      rw [Bool.not_true]
      push_cast -dsimp [d52]
      simp only [List.length_append, List.length_cons, List.length_nil]
      refine ⟨by omega, by omega, by omega, fun w'' h => by rw [show w''.cell? ⟨b, 5, none⟩ = some (.pointer (some ⟨b2, 0, none⟩)) from (Bd.below h Bd.lt).cell rfl]; exact rfl, ?_⟩
      refine callK_of (ih2 hok.2.1 false (by omega) X _ w2 ((h2.drew).below hb2) (hd.below (w := w.drew) hb2 hd.lt)) ?_
      rintro _ w3 ⟨rfl, hb3⟩
      have hb23 := hb2.trans (hb3.mono hb2.size)
      refine ⟨hb23, ?_⟩
      have hbw : Below w.heap.size w w3 := (below_drew w).trans hb23
      rw [Bool.not_false]
      cases two with
      | true =>
        push_cast -dsimp
        simp only [List.length_append, List.length_cons, List.length_nil]
        exact ⟨by omega, congrArg str (by simp [kindText]), hbw⟩
      | false =>
        push_cast -dsimp
        simp only [List.length_append, List.length_cons, List.length_nil]
        exact ⟨by omega, by omega, by omega, congrArg str (by simp [kindText]), hbw⟩
    · have d0 : w.cell? ⟨b, 0, none⟩ = some (.int .i64 4) := hB.cell rfl
      (refine fun_of_vc Tryz.func32 rfl (by kernel_rfl) [4] rfl ?_; push_cast -dsimp (maxSteps := 4000000) [Tryz.ntmps32])
      push_cast -dsimp [d0]
      refine wpL_draw (fun w' => Below w.drew.heap.size w.drew w') mixed (by kernel_rfl) (Below.refl _ _) ?_
      have Bd := hB.drew
      have d4 : w.drew.cell? ⟨b, 4, none⟩ = some (.pointer (some ⟨b1, 0, none⟩)) := Bd.cell rfl
      push_cast -dsimp [d4]
      refine ⟨fun w'' h => by rw [show w''.cell? ⟨b, 4, none⟩ = some (.pointer (some ⟨b1, 0, none⟩)) from (Bd.below h Bd.lt).cell rfl]; exact rfl, ?_⟩
      refine callK_of (ih1 hok.1 true (by omega) X _ w.drew (h1.drew) hd) ?_
      rintro _ w2 ⟨rfl, hb2⟩
      refine ⟨hb2, ?_⟩
      have B2 := Bd.below hb2 Bd.lt
      have d52 : w2.cell? ⟨b, 5, none⟩ = some (.pointer (some ⟨b2, 0, none⟩)) := B2.cell rfl
      rw [Bool.not_true]
      push_cast -dsimp [d52]
      simp only [List.length_append, List.length_cons, List.length_nil]
      refine ⟨by omega, by omega, by omega, fun w'' h => by rw [show w''.cell? ⟨b, 5, none⟩ = some (.pointer (some ⟨b2, 0, none⟩)) from (Bd.below h Bd.lt).cell rfl]; exact rfl, ?_⟩
      refine callK_of (ih2 hok.2.1 false (by omega) X _ w2 ((h2.drew).below hb2) (hd.below (w := w.drew) hb2 hd.lt)) ?_
      rintro _ w3 ⟨rfl, hb3⟩
      have hb23 := hb2.trans (hb3.mono hb2.size)
      refine ⟨hb23, ?_⟩
      have hbw : Below w.heap.size w w3 := (below_drew w).trans hb23
      rw [Bool.not_false]
      cases two with
      | true =>
        push_cast -dsimp
        simp only [List.length_append, List.length_cons, List.length_nil]
        exact ⟨by omega, congrArg str (by simp [kindText]), hbw⟩
      | false =>
        push_cast -dsimp
        simp only [List.length_append, List.length_cons, List.length_nil]
        exact ⟨by omega, by omega, by omega, congrArg str (by simp [kindText]), hbw⟩
    · have d0 : w.cell? ⟨b, 0, none⟩ = some (.int .i64 5) := hB.cell rfl
      (refine fun_of_vc Tryz.func32 rfl (by kernel_rfl) [4] rfl ?_; push_cast -dsimp (maxSteps := 4000000) [Tryz.ntmps32])
      push_cast -dsimp [d0]
      refine wpL_draw (fun w' => Below w.drew.heap.size w.drew w') mixed (by kernel_rfl) (Below.refl _ _) ?_
      have Bd := hB.drew
      have d4 : w.drew.cell? ⟨b, 4, none⟩ = some (.pointer (some ⟨b1, 0, none⟩)) := Bd.cell rfl
      push_cast -dsimp [d4]
      refine ⟨fun w'' h => by rw [show w''.cell? ⟨b, 4, none⟩ = some (.pointer (some ⟨b1, 0, none⟩)) from (Bd.below h Bd.lt).cell rfl]; exact rfl, ?_⟩
      refine callK_of (ih1 hok.1 true (by omega) X _ w.drew (h1.drew) hd) ?_
      rintro _ w2 ⟨rfl, hb2⟩
      refine ⟨hb2, ?_⟩
      have B2 := Bd.below hb2 Bd.lt
      have d52 : w2.cell? ⟨b, 5, none⟩ = some (.pointer (some ⟨b2, 0, none⟩)) := B2.cell rfl
      rw [Bool.not_true]
      push_cast -dsimp [d52]
      simp only [List.length_append, List.length_cons, List.length_nil]
      refine ⟨by omega, by omega, by omega, fun w'' h => by rw [show w''.cell? ⟨b, 5, none⟩ = some (.pointer (some ⟨b2, 0, none⟩)) from (Bd.below h Bd.lt).cell rfl]; exact rfl, ?_⟩
      refine callK_of (ih2 hok.2.1 false (by omega) X _ w2 ((h2.drew).below hb2) (hd.below (w := w.drew) hb2 hd.lt)) ?_
      rintro _ w3 ⟨rfl, hb3⟩
      have hb23 := hb2.trans (hb3.mono hb2.size)
      refine ⟨hb23, ?_⟩
      have hbw : Below w.heap.size w w3 := (below_drew w).trans hb23
      rw [Bool.not_false]
      cases two with
      | true =>
        push_cast -dsimp
        simp only [List.length_append, List.length_cons, List.length_nil]
        exact ⟨by omega, congrArg str (by simp [kindText]), hbw⟩
      | false =>
        push_cast -dsimp
        simp only [List.length_append, List.length_cons, List.length_nil]
        exact ⟨by omega, by omega, by omega, congrArg str (by simp [kindText]), hbw⟩
end Go.Proofs.YtphebgkbkdjjoaaGreatDoor
end
section
set_option linter.unusedSimpArgs false
set_option linter.unusedVariables false
/- How often, at most: a number, or -1. -/
namespace Cae
mutual
def HiOk : PatP → Prop
  | .cat l => HisOk l
  | .alt l => HisOk l
  | .many x lo hi => HiOk x ∧ -1 ≤ hi
  | _ => True
def HisOk : List PatP → Prop
  | [] => True
  | x :: l => HiOk x ∧ HisOk l
end
def HgOk (q : Int × Int) : Prop := -1 ≤ q.2
theorem ih_braces : Iv HgOk bracesP := Iv.pb iv_times fun lo hlo => Iv.pif (Iv.pb Iv.pop fun _ _ => Iv.pif
    (Iv.pb iv_times fun hi hhi => Iv.ite (fun _ => Iv.fail) fun hh => Iv.pb (iv_must _) fun _ _ => Iv.pr (by show -1 ≤ (hi : Int); omega))
    (Iv.pb (iv_must _) fun _ _ => Iv.pr (by show (-1 : Int) ≤ -1; omega)))
  (Iv.pb (iv_must _) fun _ _ => Iv.pr (by show -1 ≤ (lo : Int); omega))
theorem ih_suffix : Iv (fun o => ∀ q, o = some q → HgOk q) suffixP := by
  have h : ∀ r : Int × Int, HgOk r → Iv (fun o => ∀ q, o = some q → HgOk q) (pb popP fun _ => pr (some r)) := fun r hr => Iv.pb Iv.pop fun _ _ => Iv.pr (by intro q e; cases e; exact hr)
  refine Iv.pif (h _ (by unfold HgOk; decide)) (Iv.pif (h _ (by unfold HgOk; decide)) (Iv.pif (h _ (by unfold HgOk; decide)) (Iv.pif ?_ (Iv.pr (by intro q e; cases e)))))
  exact Iv.pb Iv.pop fun _ _ => Iv.pb ih_braces fun r hr => Iv.pr (by intro q e; cases e; exact hr)
theorem ih_againLoop (d : Nat) : ∀ (n c : Nat) (x : PatP), HiOk x → Iv HiOk (againLoop d n c x)
  | 0, _, _, _ => Iv.fail
  | n + 1, c, x, hx => Iv.pb ih_suffix fun r hr => by
      cases r with
      | none => exact Iv.pr hx
      | some q =>
        have hq := hr q rfl
        refine Iv.ite (fun _ => Iv.fail) fun _ => ih_againLoop d n (c + 1) _ ?_
        simp only [HiOk]
        exact ⟨hx, hq⟩
theorem ih_againW {d : Nat} {unit : Pa PatP} (h : Iv HiOk unit) : Iv HiOk (againW d unit) := Iv.pb h fun x hx => ih_againLoop d _ _ _ hx
theorem hisOk_snoc : ∀ {l : List PatP} {x : PatP}, HisOk l → HiOk x → HisOk (l ++ [x])
  | [], x, _, h => by simp only [List.nil_append, HisOk]; exact ⟨h, trivial⟩
  | y :: l, x, hl, h => by
    simp only [HisOk, List.cons_append] at hl ⊢
    exact ⟨hl.1, hisOk_snoc hl.2 h⟩
theorem hisOk_nil : HisOk [] := by simp only [HisOk]
theorem ih_rowLoop {again : Pa PatP} (h : Iv HiOk again) : ∀ (n : Nat) (a : List PatP), HisOk a → Iv HisOk (rowLoop again n a)
  | 0, _, _ => Iv.fail
  | n + 1, a, ha => Iv.pif (Iv.pb h fun x hx => ih_rowLoop h n _ (hisOk_snoc ha hx)) (Iv.pr ha)
theorem rowOf_hi {l : List PatP} (h : HisOk l) : HiOk (rowOf l) := by
  match l with
  | [] => simp only [rowOf, HiOk]; exact h
  | [x] => simp only [HisOk] at h; exact h.1
  | x :: y :: l => simp only [rowOf, HiOk]; exact h
theorem altOf_hi {l : List PatP} (h : HisOk l) : HiOk (altOf l) := by
  match l with
  | [] => simp only [altOf, HiOk]; exact h
  | [x] => simp only [HisOk] at h; exact h.1
  | x :: y :: l => simp only [altOf, HiOk]; exact h
theorem ih_rowW {again : Pa PatP} (h : Iv HiOk again) : Iv HiOk (rowW again) := Iv.pb (ih_rowLoop h _ _ hisOk_nil) fun ps hps => Iv.pr (rowOf_hi hps)
theorem ih_altLoop {row : Pa PatP} (h : Iv HiOk row) : ∀ (n : Nat) (a : List PatP), HisOk a → Iv HisOk (altLoop row n a)
  | 0, _, _ => Iv.fail
  | n + 1, a, ha => Iv.pif (Iv.pb Iv.pop fun _ _ => Iv.pb h fun x hx => ih_altLoop h n _ (hisOk_snoc ha hx)) (Iv.pr ha)
theorem ih_altW {row : Pa PatP} (h : Iv HiOk row) : Iv HiOk (altW row) := Iv.pb h fun x hx => Iv.pb (ih_altLoop h _ _ (hisOk_snoc hisOk_nil hx)) fun ps hps => Iv.pr (altOf_hi hps)
theorem ih_patW {d : Nat} {unit : Pa PatP} (h : Iv HiOk unit) : Iv HiOk (patW d unit) := Iv.ite (fun _ => Iv.fail) fun _ => ih_altW (ih_rowW (ih_againW h))
theorem ih_unit : ∀ d, Iv HiOk (unitP d)
  | 0 => Iv.fail
  | d + 1 => Iv.pif (Iv.pb Iv.pop fun _ _ => Iv.pr (by simp only [HiOk])) (Iv.pif (Iv.pb Iv.pop fun _ _ => Iv.pr (by simp only [HiOk]))
      (Iv.pif (Iv.pb Iv.pop fun _ _ => Iv.pb (ih_patW (ih_unit d)) fun x hx => Iv.pb (iv_must _) fun _ _ => Iv.pr hx)
        (Iv.pif (Iv.pb (iv_one (d + 1)) fun k hk => Iv.pr (by simp only [HiOk])) Iv.fail)))
theorem ih_pat (d : Nat) : Iv HiOk (patP d) := ih_patW (ih_unit d)
theorem ih_rule : Iv (fun r => HiOk r.before ∧ HiOk r.after) ruleP := Iv.pb Iv.peek fun t _ => Iv.pb iv_says fun b _ => Iv.pb (ih_pat 9) fun x hx => Iv.pb (iv_must _) fun _ _ => Iv.pb (ih_pat 9) fun y hy => Iv.pb (iv_must _) fun _ _ => Iv.pr ⟨hx, hy⟩
theorem ih_ruleLoop : ∀ (n : Nat) (acc : List RuleP), acc.length ≤ 20 ∧ (∀ r ∈ acc, HiOk r.before ∧ HiOk r.after) → Iv (fun l => l.length ≤ 20 ∧ ∀ r ∈ l, HiOk r.before ∧ HiOk r.after) (ruleLoop n acc)
  | 0, _, _ => Iv.fail
  | n + 1, acc, ha => Iv.pif (Iv.ite (fun _ => Iv.fail) fun h => Iv.pb ih_rule fun r hr => ih_ruleLoop n _ ⟨by have := ha.1; rw [List.length_append, List.length_singleton]; omega, fun x hx => by
      rcases List.mem_append.1 hx with hx | hx
      · exact ha.2 x hx
      · rw [List.mem_singleton.1 hx]; exact hr⟩) (Iv.pr ha)
theorem ih_file : Iv (fun f => ∀ r ∈ f.rules, HiOk r.before ∧ HiOk r.after) fileP := Iv.pb (iv_classLoop _ _ ⟨by simp, by simp⟩) fun cs hcs => Iv.pb (ih_ruleLoop _ _ ⟨by simp, by simp⟩) fun rs hrs =>
  Iv.pb (I := Tv) (fun l x l' hl e => ⟨trivial, (show Iv Tv elseP from Iv.pif (Iv.pb Iv.pop fun _ _ => Iv.pb iv_says fun _ _ => Iv.pb (iv_must _) fun _ _ => Iv.pr trivial) (Iv.pr trivial)) l x l' hl e |>.2⟩) fun b _ => Iv.pr hrs.2
end Cae
namespace Go.Proofs.YtphebgkbkdjjoaaGreatDoor
open Go.Vc Go.Proofs Go.RowKit Cae
set_option maxRecDepth 100000
set_option linter.unusedSimpArgs false
set_option linter.unusedVariables false
attribute [local irreducible] wpL callK valK unitK runK Fun Sl Vc.Own vc vcOps opK pureK
theorem parse_hi {s : List UInt8} {f : FileP} (hs : s.length ≤ 1000000) (h : parseR s = .ok f) : ∀ r ∈ f.rules, HiOk r.before ∧ HiOk r.after := by
  unfold parseR at h
  split at h
  · cases h
  · rename_i l hl
    have htl := tl_of hs hl
    split at h
    · cases h
    · rename_i f' l' hf
      split at h
      · cases h
        exact (ih_file _ _ _ htl.txt hf).1
      · cases h
end Go.Proofs.YtphebgkbkdjjoaaGreatDoor
end
section
/- The reference's text of a pattern. -/
namespace Cae
def pcode : PatP → Int
  | .one _ => 1
  | .any => 2
  | .edge => 3
  | .cat _ => 4
  | .alt _ => 5
  | .many _ _ _ => 6
theorem in_alt {y : PatP} {n : Nat} (h : pcode y = 5) (hn : 0 < n) : patText y n = 40 :: (patText y 0 ++ [41]) := by
  cases y <;> simp [pcode] at h
  simp [patText, inPar, hn]
theorem in_cat {y : PatP} (h : pcode y = 4) : patText y 2 = 40 :: (patText y 0 ++ [41]) ∧ patText y 1 = patText y 0 := by
  cases y <;> simp [pcode] at h
  simp [patText, inPar]
theorem in_else {y : PatP} {n : Nat} (h4 : ¬ pcode y = 4) (h5 : ¬ pcode y = 5) : patText y n = patText y 0 := by
  cases y <;> simp [pcode] at h4 h5 <;> simp [patText]
theorem join_take {xs : List (List UInt8)} {sep y : List UInt8} {i : Nat} (h : xs[i]? = some y) : Go.Lib.join (xs.take (i + 1)) sep = Go.Lib.join (xs.take i) sep ++ ((if i = 0 then [] else sep) ++ y) := by
  cases xs with
  | nil => simp at h
  | cons x r =>
    cases i with
    | zero =>
      cases h
      rw [List.take_succ_cons, Go.Lib.join_cons]
      simp [Go.Lib.join, Go.Lib.joinTail]
    | succ k =>
      rw [List.take_succ_cons, List.take_succ_cons, Go.Lib.join_cons, Go.Lib.join_cons, Go.Lib.joinTail_take_succ sep r k y (by simpa using h)]
      simp
theorem join_leR (xs : List (List UInt8)) (sep : List UInt8) (i : Nat) : (Go.Lib.join (xs.take i) sep).length ≤ (Go.Lib.join xs sep).length := by
  cases xs with
  | nil => simp
  | cons x r =>
    cases i with
    | zero => simp [Go.Lib.join]
    | succ k =>
      have := Go.Lib.joinTail_take_le sep r k
      rw [List.take_succ_cons, Go.Lib.join_cons, Go.Lib.join_cons, List.length_append, List.length_append]
      omega
theorem itoa_dec : ∀ n : Fin 100, Go.Lib.itoa (n.val : Int) = decP n.val := by decide +kernel
end Cae
namespace Go.Proofs.YtphebgkbkdjjoaaGreatDoor
open Go.Vc Go.Proofs Go.RowKit Cae
set_option maxRecDepth 100000
set_option linter.unusedSimpArgs false
set_option linter.unusedVariables false
attribute [local irreducible] wpL callK valK unitK runK Fun Sl Vc.Own vc vcOps opK pureK
set_option maxHeartbeats 8000000
def itoaMR_ren : Go.Shelf.Ren := ⟨fun | 171 => 33 | 243 => 58 | 246 => 76 | 283 => 97 | 284 => 98 | 285 => 99 | 286 => 100 | 129 => 129 | 317 => 128 | 318 => 130 | 319 => 131 | 320 => 132 | 337 => 149 | 338 => 150 | n => n, fun | 3 => 3 | 9 => 9 | 2 => 2 | 4 => 4 | 171 => 149 | 0 => 0 | 53 => 150 | 37 => 88 | 5 => 5 | 173 => 153 | 212 => 192 | 51 => 155 | 20 => 20 | 213 => 193 | 46 => 22 | 232 => 231 | 233 => 232 | n => n, fun | 17 => 4 | 18 => 8 | 19 => 9 | n => n⟩
theorem itoaMR : Go.Proofs.LaysM.n171 Tryz.prog itoaMR_ren := {
  mixed := by kernel_rfl
  f129 := Tryz.func129.trans (congrArg some (by kernel_rfl))
  f171 := Tryz.func33.trans (congrArg some (by kernel_rfl))
  f243 := Tryz.func58.trans (congrArg some (by kernel_rfl))
  f246 := Tryz.func76.trans (congrArg some (by kernel_rfl))
  f283 := Tryz.func97.trans (congrArg some (by kernel_rfl))
  f284 := Tryz.func98.trans (congrArg some (by kernel_rfl))
  f285 := Tryz.func99.trans (congrArg some (by kernel_rfl))
  f286 := Tryz.func100.trans (congrArg some (by kernel_rfl))
  f317 := Tryz.func128.trans (congrArg some (by kernel_rfl))
  f318 := Tryz.func130.trans (congrArg some (by kernel_rfl))
  f319 := Tryz.func131.trans (congrArg some (by kernel_rfl))
  f320 := Tryz.func132.trans (congrArg some (by kernel_rfl))
  f337 := Tryz.func149.trans (congrArg some (by kernel_rfl))
  f338 := Tryz.func150.trans (congrArg some (by kernel_rfl))
  t0 := Tryz.underlying0
  a0 := Tryz.isAgg0
  z0 := Tryz.sizeOf0
  v0 := Tryz.zeroValue0
  t2 := Tryz.underlying2
  a2 := Tryz.isAgg2
  z2 := Tryz.sizeOf2
  v2 := Tryz.zeroValue2
  t3 := Tryz.underlying3
  a3 := Tryz.isAgg3
  z3 := Tryz.sizeOf3
  v3 := Tryz.zeroValue3
  t4 := Tryz.underlying4
  a4 := Tryz.isAgg4
  z4 := Tryz.sizeOf4
  v4 := Tryz.zeroValue4
  t5 := Tryz.underlying5
  a5 := Tryz.isAgg5
  z5 := Tryz.sizeOf5
  v5 := Tryz.zeroValue5
  t9 := Tryz.underlying9
  a9 := Tryz.isAgg9
  z9 := Tryz.sizeOf9
  v9 := Tryz.zeroValue9
  t20 := Tryz.underlying20
  a20 := Tryz.isAgg20
  z20 := Tryz.sizeOf20
  v20 := Tryz.zeroValue20
  t37 := Tryz.underlying88
  a37 := Tryz.isAgg88
  z37 := Tryz.sizeOf88
  v37 := Tryz.zeroValue88
  t46 := Tryz.underlying22
  a46 := Tryz.isAgg22
  z46 := Tryz.sizeOf22
  v46 := Tryz.zeroValue22
  t51 := Tryz.underlying155
  a51 := Tryz.isAgg155
  z51 := Tryz.sizeOf155
  v51 := Tryz.zeroValue155
  t53 := Tryz.underlying150
  a53 := Tryz.isAgg150
  z53 := Tryz.sizeOf150
  v53 := Tryz.zeroValue150
  t171 := Tryz.underlying149
  a171 := Tryz.isAgg149
  z171 := Tryz.sizeOf149
  v171 := Tryz.zeroValue149
  t173 := Tryz.underlying153
  a173 := Tryz.isAgg153
  z173 := Tryz.sizeOf153
  v173 := Tryz.zeroValue153
  t212 := Tryz.underlying192
  a212 := Tryz.isAgg192
  z212 := Tryz.sizeOf192
  v212 := Tryz.zeroValue192
  t213 := Tryz.underlying193
  a213 := Tryz.isAgg193
  z213 := Tryz.sizeOf193
  t232 := Tryz.underlying231
  a232 := Tryz.isAgg231
  z232 := Tryz.sizeOf231
  v232 := Tryz.zeroValue231
  t233 := Tryz.underlying232
  a233 := Tryz.isAgg232
  z233 := Tryz.sizeOf232
  v233 := Tryz.zeroValue232
  g17 := by kernel_rfl
  g18 := by kernel_rfl
  g19 := by kernel_rfl
  i0 := by kernel_rfl
  i2 := by kernel_rfl
  i3 := by kernel_rfl
  i4 := by kernel_rfl
  i5 := by kernel_rfl
  i9 := by kernel_rfl
  i20 := by kernel_rfl
  i37 := by kernel_rfl
  i46 := by kernel_rfl
  i51 := by kernel_rfl
  i53 := by kernel_rfl
  i171 := by kernel_rfl
  i173 := by kernel_rfl
  i212 := by kernel_rfl
  i232 := by kernel_rfl
  i233 := by kernel_rfl
  m17 := by kernel_rfl
  m18 := by kernel_rfl
  m19 := by kernel_rfl }

/-- The table of powers of ten. -/
def Pw (w : World) : Prop := Lib.TabIs Tryz.prog w "internal/strconv.uint64pow10" .u64 Lib.pow10Tab
theorem Pw.below {w w' : World} (h : Pw w) (hb : Below w.heap.size w w') : Pw w' := TabIs_below (g := 4) (by kernel_rfl) h hb
theorem itoaI_c (n : Int) (h0 : -1 ≤ n) (h1 : n < 100) (w : World) (hp : Pw w) : Fun Tryz.prog 33 [.int .i64 n] w fun r w' => (∃ s, r = str s ∧ s.length ≤ 30 ∧ (0 ≤ n → s = decP n.toNat)) ∧ Below w.heap.size w w' := by
  refine fun_of_calls Tryz.func33 (by kernel_rfl) (by kernel_rfl) ?_
  refine Calls.mono (Any.strconv_Itoa itoaMR n (by omega) (by omega) w hp) ?_
  rintro e w' ⟨rfl, k, os, rfl⟩
  refine ⟨_, rfl, ⟨_, rfl, ?_, fun h => ?_⟩, Lib.below_grow _ w (Nat.le_refl _) k os⟩
  · by_cases h : 0 ≤ n
    · have := itoa_dec ⟨n.toNat, by omega⟩
      have hl := decP_len n.toNat
      dsimp only at this
      rw [show ((n.toNat : Nat) : Int) = n by omega] at this
      show (Lib.itoa n).length ≤ 30
      rw [this]; omega
    · obtain rfl : n = -1 := by omega
      decide +kernel
  · have := itoa_dec ⟨n.toNat, by omega⟩
    dsimp only at this
    rw [show ((n.toNat : Nat) : Int) = n by omega] at this
    exact this
theorem PatV.code {X : Nat → Prop} {w : World} {v : Value} {x : PatP} (h : PatV X w v x) : ∃ b, v = .pointer (some ⟨b, 0, none⟩) ∧ w.cell? ⟨b, 0, none⟩ = some (.int .i64 (pcode x)) := by
  cases x with
  | one k => simp only [PatV] at h; obtain ⟨b, _, rfl, _, hB, _⟩ := h; exact ⟨b, rfl, hB.cell rfl⟩
  | any => simp only [PatV] at h; obtain ⟨b, rfl, _, hB⟩ := h; exact ⟨b, rfl, hB.cell rfl⟩
  | edge => simp only [PatV] at h; obtain ⟨b, rfl, _, hB⟩ := h; exact ⟨b, rfl, hB.cell rfl⟩
  | cat l => simp only [PatV] at h; obtain ⟨b, _, _, rfl, _, hB, _⟩ := h; exact ⟨b, rfl, hB.cell rfl⟩
  | alt l => simp only [PatV] at h; obtain ⟨b, _, _, rfl, _, hB, _⟩ := h; exact ⟨b, rfl, hB.cell rfl⟩
  | many y lo hi => simp only [PatV] at h; obtain ⟨b, _, _, rfl, _, hB, _⟩ := h; exact ⟨b, rfl, hB.cell rfl⟩
def TextQ (x : PatP) : Prop := PatOk x → HiOk x → pn x ≤ 100000000 → ∀ (X : Nat → Prop) (v : Value) (w : World), PatV X w v x → Db w → Pw w → Fun Tryz.prog 11 [v] w fun r w' => r = str (patText x 0) ∧ Below w.heap.size w w'
theorem inner_of {y : PatP} (hT : TextQ y) (hok : PatOk y) (hhi : HiOk y) (hpn : pn y ≤ 100000000) (row : Bool) (X : Nat → Prop) (v : Value) (w : World) (hV : PatV X w v y) (hd : Db w) (hp : Pw w) :
    Fun Tryz.prog 31 [v, .bool row] w fun r w' => r = str (patText y (if row then 1 else 2)) ∧ Below w.heap.size w w' := by
  obtain ⟨b, rfl, hc⟩ := hV.code
  have hpl : pn y = (patText y 2).length + 3 := rfl
  have hl := pt_le y 0
  refine fun_of_vc Tryz.func31 rfl (by kernel_rfl) [4] rfl ?_
  push_cast -dsimp (maxSteps := 4000000) [Tryz.ntmps31]
  refine callK_of (hT hok hhi hpn X _ w hV hd hp) ?_
  rintro _ w2 ⟨rfl, hb2⟩
  have c2 : w2.cell? ⟨b, 0, none⟩ = some (.int .i64 (pcode y)) := (hb2.cell (World.block_lt_of_cell? _ _ hc)).trans hc
  cases row with
  | true =>
    push_cast -dsimp [c2]
    exact ⟨fun h5 => ⟨fun h4 => ⟨congrArg str (in_cat h4).2.symm, hb2⟩, fun h4 => ⟨congrArg str (in_else h4 h5).symm, hb2⟩⟩, fun h5 => ⟨by omega, by rw [List.length_append, List.length_singleton]; omega, by rw [in_alt h5 (n := 1) (by decide)]; rfl, hb2⟩⟩
  | false =>
    push_cast -dsimp [c2]
    exact ⟨fun h5 => ⟨fun h4 => ⟨by omega, by rw [List.length_append, List.length_singleton]; omega, by rw [(in_cat h4).1]; rfl, hb2⟩, fun h4 => ⟨congrArg str (in_else h4 h5).symm, hb2⟩⟩, fun h5 => ⟨by omega, by rw [List.length_append, List.length_singleton]; omega, by rw [in_alt h5 (n := 2) (by decide)]; rfl, hb2⟩⟩
theorem rtext_one (k : KindP) : TextQ (.one k) := by
  intro hok hhi hpn X v w hV hd hp
  simp only [PatV] at hV
  simp only [PatOk] at hok
  obtain ⟨b, u, rfl, _, hB, hk⟩ := hV
  obtain ⟨kb, rfl, _⟩ := hk.ptr
  have hpl : pn (.one k) = (kindText k true).length + 3 := rfl
  have d0 : w.cell? ⟨b, 0, none⟩ = some (.int .i64 1) := hB.cell rfl
  have d1 : w.cell? ⟨b, 1, none⟩ = some (.pointer (some ⟨kb, 0, none⟩)) := hB.cell rfl
  refine fun_of_vc Tryz.func11 rfl (by kernel_rfl) [2] rfl ?_
  push_cast -dsimp (maxSteps := 4000000) [Tryz.ntmps11]
  push_cast -dsimp [d0, d1]
  refine callK_of (rkindText_c k hok false (by omega) X _ w hk hd) ?_
  rintro _ w2 ⟨rfl, hb2⟩
  push_cast -dsimp
  exact ⟨rfl, hb2⟩
theorem rtext_any : TextQ .any := by
  intro hok hhi hpn X v w hV hd hp
  simp only [PatV] at hV
  obtain ⟨b, rfl, _, hB⟩ := hV
  have d0 : w.cell? ⟨b, 0, none⟩ = some (.int .i64 2) := hB.cell rfl
  refine fun_of_vc Tryz.func11 rfl (by kernel_rfl) [2] rfl ?_
  push_cast -dsimp (maxSteps := 4000000) [Tryz.ntmps11]
  push_cast -dsimp [d0]
  exact ⟨rfl, Below.refl _ _⟩
theorem rtext_edge : TextQ .edge := by
  intro hok hhi hpn X v w hV hd hp
  simp only [PatV] at hV
  obtain ⟨b, rfl, _, hB⟩ := hV
  have d0 : w.cell? ⟨b, 0, none⟩ = some (.int .i64 3) := hB.cell rfl
  refine fun_of_vc Tryz.func11 rfl (by kernel_rfl) [2] rfl ?_
  push_cast -dsimp (maxSteps := 4000000) [Tryz.ntmps11]
  push_cast -dsimp [d0]
  exact ⟨rfl, Below.refl _ _⟩
theorem HisOk.mem : ∀ {l : List PatP} {x : PatP}, HisOk l → x ∈ l → HiOk x
  | y :: l, x, h, hx => by
    simp only [HisOk] at h
    rcases List.mem_cons.1 hx with rfl | hx
    · exact h.1
    · exact HisOk.mem h.2 hx
theorem PatsOk.memR : ∀ {l : List PatP} {x : PatP}, PatsOk l → x ∈ l → PatOk x
  | y :: l, x, h, hx => by
    simp only [PatsOk] at h
    rcases List.mem_cons.1 hx with rfl | hx
    · exact h.1
    · exact PatsOk.memR h.2 hx
theorem rtext_cat (l : List PatP) (ht : ∀ y ∈ l, TextQ y) : TextQ (.cat l) := by
  intro hok hhi hpn X v w hV hd hp
  simp only [PatV] at hV
  simp only [PatOk] at hok
  simp only [HiOk] at hhi
  obtain ⟨b, sv, vs, rfl, _, hB, hs, hl⟩ := hV
  obtain ⟨sa, sc, rfl, hsc⟩ := hs.shape
  have hpc := pn_in_cat (l := l)
  have hvl := PatsV.len hl
  have e0 : ∀ w'', Below w.heap.size w w'' → w''.cell? ⟨b, 0, none⟩ = some (.int .i64 4) := fun w'' h => (hB.below h hB.lt).cell rfl
  have d2 : w.cell? ⟨b, 2, none⟩ = some (.slice sa vs.length sc) := hB.cell rfl
  have hfull : patText (.cat l) 0 = Go.Lib.join (patTexts l 2) [32] := by simp [patText, inPar]
  have d0 := e0 w (Below.refl _ _)
  refine fun_of_vc Tryz.func11 rfl (by kernel_rfl) [2] rfl ?_
  push_cast -dsimp (maxSteps := 4000000) [Tryz.ntmps11]
  push_cast -dsimp [d0, d2]
  refine wpL_loop [4, 5, 6, 32, 33, 34, 35, 36, 37, 38, 39, 40, 41, 42, 43, 44, 45, 46, 47, 48, 49, 50, 51, 52, 53, 54, 55, 56, 57, 58, 59, 60, 61, 62] (fun z wx => ∃ i : Nat, z 32 = .int .i64 i ∧ z 4 = str (Go.Lib.join ((patTexts l 2).take i) [32]) ∧ i ≤ l.length ∧ Below w.heap.size w wx) (fun z _ => l.length - (intOf (z 32)).toNat) ?_ ?_
  · exact ⟨0, rfl, (by rw [List.take_zero]; rfl), Nat.zero_le _, Below.refl _ _⟩
  rintro z wx ⟨i, h32, h4, hi, hb⟩
  push_cast -dsimp [h32]
  refine ⟨fun hlt => ?_, fun hge => ?_⟩
  · have hx : vs[i]? = some vs[i] := List.getElem?_eq_getElem (by omega)
    have hat := PatsV.at hl hx
    obtain ⟨y, hy, hVy⟩ := hat
    have hgt := (hs.below hb).get hx
    obtain ⟨g, o, hsa, _, hcell⟩ := hgt
    have k0 : wx.cell? ⟨g, o + i, none⟩ = some (ptrP vs[i]) := by have := hcell 0 _ rfl; simpa using this
    have x0 := e0 wx hb
    have hym := List.mem_of_getElem? hy
    have hyt : (patTexts l 2)[i]? = some (patText y 2) := by rw [texts_map, List.getElem?_map, hy]; rfl
    have hj := join_take (sep := [32]) hyt
    have hjl := join_leR (patTexts l 2) [32] i
    have hjl2 := join_leR (patTexts l 2) [32] (i + 1)
    rw [hj] at hjl2
    rw [List.length_append, List.length_append] at hjl2
    have hpy := hpc.2.2 y hym
    have hyl := pt_le y 2
    have hin := fun w' hb' => inner_of (ht y hym) (PatsOk.memR hok hym) (HisOk.mem hhi hym) (by omega) false X _ w' (hVy.below hb') (hd.below hb' hd.lt) (hp.below hb')
    by_cases hpos : (0 : Int) < (i : Int)
    · rw [if_neg (by omega)] at hj hjl2
      simp only [List.length_cons, List.length_nil] at hjl2
      push_cast -dsimp [h32, h4, indexAddrK_at hsa, k0, x0, Nat.mul_one, hpos, decide_false, decide_true]
      simp only [List.length_append, List.length_cons, List.length_nil]
      refine ⟨⟨by omega, by omega⟩, by omega, ?_⟩
      refine callK_of (hin wx hb) ?_
      rintro _ w2 ⟨rfl, hb2⟩
      have hb2' := hb.trans (hb2.mono hb.size)
      push_cast -dsimp
      simp only [List.length_append, List.length_cons, List.length_nil]
      exact ⟨by first | omega | (simp only [Bool.false_eq_true, if_false, if_true] at *; omega), ⟨by omega, by omega⟩, rfl, ⟨i + 1, rfl, by rw [hj]; exact congrArg str (by simp), by omega, hb2'⟩, by simp only [intOf, h32]; omega⟩
    · rw [if_pos (by omega)] at hj hjl2
      push_cast -dsimp [h32, h4, indexAddrK_at hsa, k0, x0, Nat.mul_one, hpos, decide_false, decide_true]
      refine ⟨⟨by omega, by omega⟩, ?_⟩
      refine callK_of (hin wx hb) ?_
      rintro _ w2 ⟨rfl, hb2⟩
      have hb2' := hb.trans (hb2.mono hb.size)
      push_cast -dsimp
      exact ⟨by first | omega | (simp only [Bool.false_eq_true, if_false, if_true] at *; omega), ⟨by omega, by omega⟩, rfl, ⟨i + 1, rfl, by rw [hj]; exact congrArg str (by simp), by omega, hb2'⟩, by simp only [intOf, h32]; omega⟩
  · have : i = (patTexts l 2).length := by rw [texts_map, List.length_map]; omega
    subst this
    rw [List.take_length] at h4
    push_cast -dsimp [h4]
    exact ⟨by rw [hfull], hb⟩
theorem rtext_alt (l : List PatP) (ht : ∀ y ∈ l, TextQ y) : TextQ (.alt l) := by
  intro hok hhi hpn X v w hV hd hp
  simp only [PatV] at hV
  simp only [PatOk] at hok
  simp only [HiOk] at hhi
  obtain ⟨b, sv, vs, rfl, _, hB, hs, hl⟩ := hV
  obtain ⟨sa, sc, rfl, hsc⟩ := hs.shape
  have hpc := pn_in_alt (l := l)
  have hvl := PatsV.len hl
  have e0 : ∀ w'', Below w.heap.size w w'' → w''.cell? ⟨b, 0, none⟩ = some (.int .i64 5) := fun w'' h => (hB.below h hB.lt).cell rfl
  have d2 : w.cell? ⟨b, 2, none⟩ = some (.slice sa vs.length sc) := hB.cell rfl
  have hfull : patText (.alt l) 0 = Go.Lib.join (patTexts l 1) [32, 124, 32] := by simp [patText, inPar]
  have d0 := e0 w (Below.refl _ _)
  refine fun_of_vc Tryz.func11 rfl (by kernel_rfl) [2] rfl ?_
  push_cast -dsimp (maxSteps := 4000000) [Tryz.ntmps11]
  push_cast -dsimp [d0, d2]
  refine wpL_loop [4, 5, 6, 32, 33, 34, 35, 36, 37, 38, 39, 40, 41, 42, 43, 44, 45, 46, 47, 48, 49, 50, 51, 52, 53, 54, 55, 56, 57, 58, 59, 60, 61, 62] (fun z wx => ∃ i : Nat, z 32 = .int .i64 i ∧ z 4 = str (Go.Lib.join ((patTexts l 1).take i) [32, 124, 32]) ∧ i ≤ l.length ∧ Below w.heap.size w wx) (fun z _ => l.length - (intOf (z 32)).toNat) ?_ ?_
  · exact ⟨0, rfl, (by rw [List.take_zero]; rfl), Nat.zero_le _, Below.refl _ _⟩
  rintro z wx ⟨i, h32, h4, hi, hb⟩
  push_cast -dsimp [h32]
  refine ⟨fun hlt => ?_, fun hge => ?_⟩
  · have hx : vs[i]? = some vs[i] := List.getElem?_eq_getElem (by omega)
    have hat := PatsV.at hl hx
    obtain ⟨y, hy, hVy⟩ := hat
    have hgt := (hs.below hb).get hx
    obtain ⟨g, o, hsa, _, hcell⟩ := hgt
    have k0 : wx.cell? ⟨g, o + i, none⟩ = some (ptrP vs[i]) := by have := hcell 0 _ rfl; simpa using this
    have x0 := e0 wx hb
    have hym := List.mem_of_getElem? hy
    have hyt : (patTexts l 1)[i]? = some (patText y 1) := by rw [texts_map, List.getElem?_map, hy]; rfl
    have hj := join_take (sep := [32, 124, 32]) hyt
    have hjl := join_leR (patTexts l 1) [32, 124, 32] i
    have hjl2 := join_leR (patTexts l 1) [32, 124, 32] (i + 1)
    rw [hj] at hjl2
    rw [List.length_append, List.length_append] at hjl2
    have hpy := hpc.2.2 y hym
    have hyl := pt_le y 1
    have hin := fun w' hb' => inner_of (ht y hym) (PatsOk.memR hok hym) (HisOk.mem hhi hym) (by omega) true X _ w' (hVy.below hb') (hd.below hb' hd.lt) (hp.below hb')
    by_cases hpos : (0 : Int) < (i : Int)
    · rw [if_neg (by omega)] at hj hjl2
      simp only [List.length_cons, List.length_nil] at hjl2
      push_cast -dsimp [h32, h4, indexAddrK_at hsa, k0, x0, Nat.mul_one, hpos, decide_false, decide_true]
      simp only [List.length_append, List.length_cons, List.length_nil]
      refine ⟨⟨by omega, by omega⟩, by omega, by omega, ?_⟩
      refine callK_of (hin wx hb) ?_
      rintro _ w2 ⟨rfl, hb2⟩
      have hb2' := hb.trans (hb2.mono hb.size)
      push_cast -dsimp
      simp only [List.length_append, List.length_cons, List.length_nil]
      exact ⟨by first | omega | (simp only [Bool.false_eq_true, if_false, if_true] at *; omega), ⟨by omega, by omega⟩, rfl, ⟨i + 1, rfl, by rw [hj]; exact congrArg str (by simp), by omega, hb2'⟩, by simp only [intOf, h32]; omega⟩
    · rw [if_pos (by omega)] at hj hjl2
      push_cast -dsimp [h32, h4, indexAddrK_at hsa, k0, x0, Nat.mul_one, hpos, decide_false, decide_true]
      refine ⟨⟨by omega, by omega⟩, ?_⟩
      refine callK_of (hin wx hb) ?_
      rintro _ w2 ⟨rfl, hb2⟩
      have hb2' := hb.trans (hb2.mono hb.size)
      push_cast -dsimp
      exact ⟨by first | omega | (simp only [Bool.false_eq_true, if_false, if_true] at *; omega), ⟨by omega, by omega⟩, rfl, ⟨i + 1, rfl, by rw [hj]; exact congrArg str (by simp), by omega, hb2'⟩, by simp only [intOf, h32]; omega⟩
  · have : i = (patTexts l 1).length := by rw [texts_map, List.length_map]; omega
    subst this
    rw [List.take_length] at h4
    push_cast -dsimp [h4]
    exact ⟨by rw [hfull], hb⟩
theorem rtext_many (x : PatP) (lo hi : Int) (ht : TextQ x) : TextQ (.many x lo hi) := by
  intro hok hhi hpn X v w hV hd hp
  simp only [PatV] at hV
  simp only [PatOk] at hok
  simp only [HiOk] at hhi
  obtain ⟨b, sv, u, rfl, _, hB, hs, hVx⟩ := hV
  obtain ⟨sa, sc, rfl, hsc⟩ := hs.shape
  obtain ⟨g, o, rfl, _, hcell⟩ := hs.get (i := 0) (x := u) rfl
  have k0 : w.cell? ⟨g, o, none⟩ = some (ptrP u) := by have := hcell 0 _ rfl; simpa using this
  have hpx := pn_in_many (x := x) (lo := lo) (hi := hi)
  have hxl := pt_le x 2
  have e : ∀ (o : Nat) (c : Value) w'', Below w.heap.size w w'' → [Value.int .i64 6, .pointer none, .slice (some ⟨g, _, none⟩) 1 sc, .int .i64 lo, .int .i64 hi][o]? = some c → w''.cell? ⟨b, o, none⟩ = some c := fun o c w'' h e => (hB.below h hB.lt).cell e
  have d0 := e 0 _ w (Below.refl _ _) rfl
  have d2 := e 2 _ w (Below.refl _ _) rfl
  have hdef : patText (.many x lo hi) 0 = patText x 2 ++ timesText lo hi := rfl
  have htm : timesText lo hi = if lo = 0 ∧ hi < 0 then [42] else if lo = 1 ∧ hi < 0 then [43] else if lo = 0 ∧ hi = 1 then [63]
    else if hi < 0 then 123 :: (decP lo.toNat ++ [44, 125])
    else if hi = lo then 123 :: (decP lo.toNat ++ [125])
    else 123 :: (decP lo.toNat ++ 44 :: (decP hi.toNat ++ [125])) := rfl
  refine fun_of_vc Tryz.func11 rfl (by kernel_rfl) [2] rfl ?_
  push_cast -dsimp (maxSteps := 4000000) [Tryz.ntmps11]
  push_cast -dsimp [d0, d2, k0, Nat.zero_mul, Nat.add_zero]
  refine callK_of (inner_of ht hok.1 hhi.1 (by omega) false X _ w hVx hd hp) ?_
  rintro _ w2 ⟨rfl, hb2⟩
  have hgs : ∃ t, t = patText x 2 := ⟨_, rfl⟩
  obtain ⟨t, hgt⟩ := hgs
  rw [if_neg (by decide), ← hgt]
  rw [← hgt] at hdef hxl
  have bd2 := below_drewR w2
  have hbd : Below w.heap.size w w2.drew := hb2.trans (bd2.mono hb2.size)
  have eD : ∀ (o : Nat) (c : Value) w'', Below w.heap.size w w'' → [Value.int .i64 6, .pointer none, .slice (some ⟨g, _, none⟩) 1 sc, .int .i64 lo, .int .i64 hi][o]? = some c → ∀ L, optK (w''.cell? ⟨b, o, none⟩) L .mk = L c := fun o c w'' h hc L => by rw [e o c w'' h hc]; rfl
  push_cast -dsimp
  refine wpL_draw (fun w'' => Below w.heap.size w w'') mixed (by kernel_rfl) hbd ?_
  push_cast -dsimp [e 3 _ _ hbd rfl]
  refine ⟨fun w'' h => by rw [e 3 _ w'' h rfl]; exact rfl, ?_⟩
  refine callK_of (itoaI_c lo (by omega) (by omega) w2.drew (hp.below hbd)) ?_
  rintro _ w3 ⟨⟨sl, rfl, hsl, hlo⟩, hb3⟩
  have hbw3 := hbd.trans (hb3.mono hbd.size)
  refine ⟨hbw3, ?_⟩
  push_cast -dsimp [e 4 _ _ hbw3 rfl]
  refine ⟨fun w'' h => by rw [e 4 _ w'' h rfl]; exact rfl, ?_⟩
  refine callK_of (itoaI_c hi (by omega) (by omega) w3 (hp.below hbw3)) ?_
  rintro _ w4 ⟨⟨sh, rfl, hsh, hhs⟩, hb4⟩
  have hbw4 := hbw3.trans (hb4.mono hbw3.size)
  refine ⟨hbw4, ?_⟩
  have f3 := e 3 _ _ hbw4 rfl
  have f4 := e 4 _ _ hbw4 rfl
  have hlo := hlo hok.2.1
  subst hlo
  have hl1 := decP_len lo.toNat
  have hl2 := decP_len hi.toNat
  have hl3 := decP_len 0
  by_cases ha : hi < 0
  · by_cases h0 : lo = 0
    · subst h0
      push_cast -dsimp [f3, f4, ha]
      exact ⟨by omega, by rw [hdef, htm, if_pos ⟨rfl, ha⟩], hbw4⟩
    · by_cases h1 : lo = 1
      · subst h1
        push_cast -dsimp [f3, f4, ha]
        exact ⟨by omega, by rw [hdef, htm, if_neg (by omega), if_pos ⟨rfl, ha⟩], hbw4⟩
      · push_cast -dsimp [f3, f4, ha, h0, h1]
        simp only [List.length_append, List.length_cons, List.length_nil]
        exact ⟨by omega, by omega, by omega, by rw [hdef, htm, if_neg (by omega), if_neg (by omega), if_neg (by omega), if_pos ha]; exact congrArg str (by simp), hbw4⟩
  · have hh := hhs (by omega)
    subst hh
    by_cases h0 : lo = 0
    · by_cases h1 : hi = 1
      · subst h0 h1
        push_cast -dsimp [f3, f4]
        exact ⟨by omega, by rw [hdef, htm, if_neg (by decide), if_neg (by decide), if_pos ⟨rfl, rfl⟩], hbw4⟩
      · subst h0
        push_cast -dsimp [f3, f4, ha, h1]
        have b4d := below_drewR w4
        have hbw5 := hbw4.trans (b4d.mono hbw4.size)
        refine wpL_draw (fun w'' => Below w.heap.size w w'') mixed (by kernel_rfl) hbw5 ?_
        push_cast -dsimp [e 3 _ _ hbw5 rfl, e 4 _ _ hbw5 rfl]
        refine ⟨fun w'' h => by rw [e 4 _ w'' h rfl]; exact rfl, fun w'' h => by rw [e 3 _ w'' h rfl]; exact rfl, fun h5 => ?_, fun h5 => ?_⟩
        · simp only [List.length_append, List.length_cons, List.length_nil]
          exact ⟨by omega, by omega, by omega, by rw [hdef, htm, if_neg (by omega), if_neg (by omega), if_neg (by omega), if_neg ha, if_pos h5]; exact congrArg str (by simp), hbw5⟩
        · simp only [List.length_append, List.length_cons, List.length_nil]
          exact ⟨by omega, by omega, by omega, by omega, by omega, by rw [hdef, htm, if_neg (by omega), if_neg (by omega), if_neg (by omega), if_neg ha, if_neg h5]; exact congrArg str (by simp), hbw5⟩
    · push_cast -dsimp (maxSteps := 4000000) [f3, f4, ha, h0]
      have b4d := below_drewR w4
      have hbw5 := hbw4.trans (b4d.mono hbw4.size)
      refine wpL_draw (fun w'' => Below w.heap.size w w'') mixed (by kernel_rfl) hbw5 ?_
      push_cast -dsimp [e 3 _ _ hbw5 rfl, e 4 _ _ hbw5 rfl]
      refine ⟨fun w'' h => by rw [e 4 _ w'' h rfl]; exact rfl, fun w'' h => by rw [e 3 _ w'' h rfl]; exact rfl, fun h5 => ?_, fun h5 => ?_⟩
      · simp only [List.length_append, List.length_cons, List.length_nil]
        exact ⟨by omega, by omega, by omega, by rw [hdef, htm, if_neg (by omega), if_neg (by omega), if_neg (by omega), if_neg ha, if_pos h5]; exact congrArg str (by simp), hbw5⟩
      · simp only [List.length_append, List.length_cons, List.length_nil]
        exact ⟨by omega, by omega, by omega, by omega, by omega, by rw [hdef, htm, if_neg (by omega), if_neg (by omega), if_neg (by omega), if_neg ha, if_neg h5]; exact congrArg str (by simp), hbw5⟩
mutual
theorem rtext_c : ∀ x, TextQ x
  | .one k => rtext_one k
  | .any => rtext_any
  | .edge => rtext_edge
  | .cat l => rtext_cat l (rtexts_c l)
  | .alt l => rtext_alt l (rtexts_c l)
  | .many x lo hi => rtext_many x lo hi (rtext_c x)
theorem rtexts_c : ∀ (l : List PatP) (x : PatP), x ∈ l → TextQ x
  | [], x, h => by cases h
  | y :: l, x, h => by
    have hy := rtext_c y
    rcases List.mem_cons.1 h with h | h
    · rw [h]; exact hy
    · exact rtexts_c l x h
end
end Go.Proofs.YtphebgkbkdjjoaaGreatDoor
end
section
/- The reference's Print. -/
namespace Go.Vc
theorem keyBool {P : Program} {kt : TypeId} (hk : P.underlying kt = some .bool) : KeyOk P kt (fun b : Bool => Value.bool b) where
  und := ⟨_, hk, fun a b => by cases a <;> cases b <;> rfl⟩
  bits := fun n a => by cases n <;> simp [Instr.sameBits]
  check := fun em n a w => by simp [Instr.checkKey, run_underlying hk]
end Go.Vc
namespace Cae
def brkL : List (Bool × Go.Value) := [(true, Go.Vc.str [98, 114, 101, 97, 107, 32]), (false, Go.Vc.str [107, 101, 101, 112, 32])]
def brkT (b : Bool) : List UInt8 := if b then [98, 114, 101, 97, 107, 32] else [107, 101, 101, 112, 32]
theorem brkL_get (b : Bool) (z : Go.Value) : (Go.Vc.assocG b brkL).getD z = Go.Vc.str (brkT b) := by cases b <;> rfl
def sideT (s : List UInt8) : List UInt8 := if s = [] then [] else s ++ [32]
def sideU (s : List UInt8) : List UInt8 := if s = [] then [] else 32 :: s
theorem ruleText_of (r : RuleP) : ruleText r = brkT r.brk ++ sideT (patText r.before 0) ++ [58] ++ sideU (patText r.after 0) ++ [59, 10] := by
  unfold ruleText brkT sideT sideU
  split <;> split <;> split <;> simp [*]
theorem brkT_len (b : Bool) : (brkT b).length ≤ 6 := by cases b <;> decide
theorem sideT_len (s : List UInt8) : (sideT s).length ≤ s.length + 1 := by unfold sideT; split <;> simp
theorem sideU_len (s : List UInt8) : (sideU s).length ≤ s.length + 1 := by unfold sideU; split <;> simp
end Cae
namespace Go.Proofs.YtphebgkbkdjjoaaGreatDoor
open Go.Vc Go.Proofs Go.RowKit Cae
set_option maxRecDepth 100000
set_option linter.unusedSimpArgs false
set_option linter.unusedVariables false
attribute [local irreducible] wpL callK valK unitK runK Fun Sl Vc.Own vc vcOps opK pureK
set_option maxHeartbeats 8000000
theorem rprint_c (f : FileP) (hok : FileOk f) (hhi : ∀ r ∈ f.rules, HiOk r.before ∧ HiOk r.after) (hlen : (fileText f).length ≤ 50000000) (hc1 : f.classes.length ≤ 1000) (hr1 : f.rules.length ≤ 1000) (X : Nat → Prop) (v : Value) (w : World) (hv : FileV X w v f) (hd : Db w) (hp : Pw w) :
    Fun Tryz.prog 13 [v] w fun r w' => r = str (fileText f) ∧ Below w.heap.size w w' := by
  obtain ⟨cv, rv, cs, rs, rfl, S1, S2, A1, A2⟩ := hv
  obtain ⟨ca, cc, rfl, hcc⟩ := S1.shape
  obtain ⟨ra, rc, rfl, hrc⟩ := S2.shape
  have l1 := A1.len
  have l2 := A2.len
  have hcl : (f.classes.flatMap classText).length + (f.rules.flatMap ruleText).length ≤ (fileText f).length := by unfold fileText; rw [List.length_append, List.length_append]; omega
  refine fun_of_wL Tryz.func13 rfl (by kernel_rfl) [2] rfl ?_
  push_cast -dsimp (maxSteps := 4000000) [Tryz.ntmps13]
  refine wpL_seqV ?_
  push_cast -dsimp
  refine boxK_of ?_
  intro w1 hw1
  have z1 := hw1.size
  have F1 : Blk w1 w.heap.size 28 [.slice ca cs.length cc, .slice ra rs.length rc, .bool f.els] := hw1.blk
  have b1 := hw1.below
  have F : ∀ {wx : World}, Below w1.heap.size w1 wx → Blk wx w.heap.size 28 [.slice ca cs.length cc, .slice ra rs.length rc, .bool f.els] := fun hb => F1.below hb F1.lt
  push_cast -dsimp
  refine wpL_seqV ?_
  push_cast -dsimp
  have d0 : w1.cell? ⟨w.heap.size, 0, none⟩ = some (.slice ca cs.length cc) := F1.cell rfl
  refine wpL_seqW (wpL_seqV ?_)
  push_cast -dsimp [d0]
  refine wpL_blockW ?_
  refine wpL_cutB [3, 5, 13, 14, 15, 16, 17, 18, 19, 20, 21, 22, 23, 24, 25, 26, 27, 28] (fun z wx => z 3 = str (f.classes.flatMap classText) ∧ Below w1.heap.size w1 wx) ?_ ?_
  · refine wpL_loopW [3, 5, 13, 14, 15, 16, 17, 18, 19, 20, 21, 22, 23, 24, 25, 26, 27, 28] (fun z wx => ∃ i : Nat, z 13 = .int .i64 i ∧ z 3 = str ((f.classes.take i).flatMap classText) ∧ i ≤ f.classes.length ∧ Below w1.heap.size w1 wx) (fun z _ => f.classes.length - (intOf (z 13)).toNat) ?_ ?_
    · exact ⟨0, rfl, rfl, Nat.zero_le _, Below.refl _ _⟩
    rintro z wx ⟨i, h13, h3, hi, hb⟩
    refine wpL_seqV ?_
    push_cast -dsimp [h13]
    refine wpL_seqV ?_
    push_cast -dsimp
    refine ⟨fun hlt => ?_, fun hge => ?_⟩
    rotate_left
    · have : i = f.classes.length := by omega
      subst this
      rw [List.take_length] at h3
      exact ⟨h3, hb⟩
    have hy : f.classes[i]? = some f.classes[i] := List.getElem?_eq_getElem (by omega)
    have hgy : ∃ y, y = f.classes[i] := ⟨_, rfl⟩
    obtain ⟨y, hgy⟩ := hgy
    rw [← hgy] at hy
    have hym := List.mem_of_getElem? hy
    have hat := A1.at hy
    obtain ⟨⟨n1, p1, u1⟩, hx, hn1, hp1, hK⟩ := hat
    dsimp only at hn1 hp1 hK
    have hbw : Below w.heap.size w wx := b1.trans (hb.mono (by omega))
    have hgt := (S1.below hbw).get hx
    obtain ⟨g, o, hsa, _, hcell⟩ := hgt
    rw [hn1, hp1] at hcell
    have D1 : cellsAt wx ⟨g, o + i * 3, none⟩ 0 3 = some [str y.name, .int .i64 y.pos, ptrP u1] := cellsAt_of (encC (y.name, y.pos, u1)) 0 (fun j u hu => by simpa using hcell j u hu)
    have htk : (f.classes.take (i + 1)).flatMap classText = (f.classes.take i).flatMap classText ++ classText y := by rw [List.take_add_one, hy]; simp
    have hcl2 : (classText y).length ≤ (f.classes.flatMap classText).length := flatS_mem classText hym
    have hcl3 := flatS_take classText f.classes i
    have hct : classText y = [99, 108, 97, 115, 115, 32] ++ y.name ++ [32, 61, 32] ++ kindText y.kind false ++ [59, 10] := rfl
    have hcl4 := hcl2
    rw [hct] at hcl4
    simp only [List.length_append, List.length_cons, List.length_nil] at hcl4
    have hkl := kt_len y.kind
    refine wpL_seqW (wpL_blockW (wpL_seqV ?_))
    push_cast -dsimp [h13, indexAddrK_at hsa, D1]
    refine ⟨⟨by omega, by omega⟩, ?_⟩
    refine allocK (z := [str [], .int .i64 0, .pointer none]) (by kernel_rfl) ?_
    intro wa hwa
    have za := hwa.size
    push_cast -dsimp
    refine storeAgg (n := 3) (by kernel_rfl) hwa.blk rfl (by decide) (by simp [ptrP]; exact ⟨rfl, rfl, rfl⟩) ?_
    intro wc hwc
    have zc := hwc.size
    have hgk : ∃ kb, kb = wx.heap.size := ⟨_, rfl⟩
    obtain ⟨kb, hkb⟩ := hgk
    have Bc : Blk wc kb 58 [str y.name, .int .i64 y.pos, ptrP u1] := by rw [hkb]; exact hwc.blk
    have bxc : Below wx.heap.size wx wc := hwa.below.trans (hwc.kept.below (B := wx.heap.size) (by omega) (fun i h => by omega))
    have hbc := hb.trans (bxc.mono hb.size)
    have hbwc := hbw.trans (bxc.mono hbw.size)
    rw [← hkb]
    have c0 := Bc.drew.cell (o := 0) rfl
    have c2 := Bc.drew.cell (o := 2) rfl
    have bdc := below_drewR wc
    push_cast -dsimp
    refine wpL_draw (fun w'' => Blk w'' kb 58 [str y.name, .int .i64 y.pos, ptrP u1]) mixed (by kernel_rfl) Bc.drew ?_
    push_cast -dsimp [c0, c2, h3]
    simp only [List.length_append, List.length_cons, List.length_nil]
    refine ⟨fun w'' h => by rw [h.cell (o := 0) rfl]; exact rfl, by omega, by omega, fun w'' h => by rw [h.cell (o := 2) rfl]; exact rfl, ?_⟩
    refine callK_of (rkindText_c y.kind (hok.1 y hym) true (by omega) X _ wc.drew ((hK.below hbwc).below bdc) (hd.below (hbwc.trans (bdc.mono hbwc.size)) hd.lt)) ?_
    rintro _ wd ⟨rfl, bd⟩
    refine ⟨Bc.drew.below bd Bc.drew.lt, ?_⟩
    rw [Bool.not_true]
    push_cast -dsimp [h3]
    simp only [List.length_append, List.length_cons, List.length_nil]
    refine ⟨by omega, by omega, by omega, ?_⟩
    refine wpL_of ?_
    push_cast -dsimp [h13]
    exact ⟨⟨by omega, by omega⟩, ⟨i + 1, rfl, (by rw [htk, hct] <;> exact congrArg str (by simp)), by omega, hbc.trans ((bdc.trans bd).mono hbc.size)⟩, by simp only [intOf, h13]; omega⟩
  · rintro z V0 ⟨h3, hb0⟩
    have hbw0 : Below w.heap.size w V0 := b1.trans (hb0.mono (by omega))
    have d1 : V0.cell? ⟨w.heap.size, 1, none⟩ = some (.slice ra rs.length rc) := (F hb0).cell rfl
    push_cast -dsimp
    refine wpL_seqW (wpL_seqV ?_)
    push_cast -dsimp [d1]
    refine wpL_blockW ?_
    refine wpL_cutB [3, 7, 8, 9, 32, 33, 34, 35, 36, 37, 38, 39, 40, 41, 42, 43, 44, 45, 46, 47, 48, 49, 50, 51, 52, 53, 54, 55, 56, 57, 58, 59, 60, 61, 62, 63, 64, 65] (fun z wx => z 3 = str (f.classes.flatMap classText ++ f.rules.flatMap ruleText) ∧ Below w1.heap.size w1 wx) ?_ ?_
    · refine wpL_loopW [3, 7, 8, 9, 32, 33, 34, 35, 36, 37, 38, 39, 40, 41, 42, 43, 44, 45, 46, 47, 48, 49, 50, 51, 52, 53, 54, 55, 56, 57, 58, 59, 60, 61, 62, 63, 64, 65] (fun z wx => ∃ i : Nat, z 32 = .int .i64 i ∧ z 3 = str (f.classes.flatMap classText ++ (f.rules.take i).flatMap ruleText) ∧ i ≤ f.rules.length ∧ Below w1.heap.size w1 wx) (fun z _ => f.rules.length - (intOf (z 32)).toNat) ?_ ?_
      · exact ⟨0, rfl, (by show z 3 = _; simpa using h3), Nat.zero_le _, hb0⟩
      rintro z wx ⟨i, h32, h3, hi, hb⟩
      refine wpL_seqV ?_
      push_cast -dsimp [h32]
      refine wpL_seqV ?_
      push_cast -dsimp
      refine ⟨fun hlt => ?_, fun hge => ?_⟩
      rotate_left
      · have : i = f.rules.length := by omega
        subst this
        rw [List.take_length] at h3
        exact ⟨h3, hb⟩
      have hy : f.rules[i]? = some f.rules[i] := List.getElem?_eq_getElem (by omega)
      have hgy : ∃ y, y = f.rules[i] := ⟨_, rfl⟩
      obtain ⟨y, hgy⟩ := hgy
      rw [← hgy] at hy
      have hym := List.mem_of_getElem? hy
      have hKo := hok.2 y hym
      have hKh := hhi y hym
      have hat := A2.at hy
      obtain ⟨⟨n1, p1, u1, v1⟩, hx, hn1, hp1, hV1, hU1⟩ := hat
      dsimp only at hn1 hp1 hV1 hU1
      have hbw : Below w.heap.size w wx := b1.trans (hb.mono (by omega))
      have hgt := (S2.below hbw).get hx
      obtain ⟨g, o, hsa, _, hcell⟩ := hgt
      rw [hn1, hp1] at hcell
      have D1 : cellsAt wx ⟨g, o + i * 4, none⟩ 0 4 = some [.int .i64 y.pos, .bool y.brk, ptrP u1, ptrP v1] := cellsAt_of (encRu (y.pos, y.brk, u1, v1)) 0 (fun j u hu => by simpa using hcell j u hu)
      have htk : (f.rules.take (i + 1)).flatMap ruleText = (f.rules.take i).flatMap ruleText ++ ruleText y := by rw [List.take_add_one, hy]; simp
      have hcl2 : (ruleText y).length ≤ (f.rules.flatMap ruleText).length := flatS_mem ruleText hym
      have hcl3 := flatS_take ruleText f.rules i
      have hrl := rt_len y
      have hpt1 := pt_zero y.before
      have hpt2 := pt_zero y.after
      have hpn1 : pn y.before = (patText y.before 2).length + 3 := rfl
      have hpn2 : pn y.after = (patText y.after 2).length + 3 := rfl
      have hbl := brkT_len y.brk
      have hsl := sideT_len (patText y.before 0)
      have hul := sideU_len (patText y.after 0)
      have hgO : ∃ O, O = f.classes.flatMap classText ++ (f.rules.take i).flatMap ruleText := ⟨_, rfl⟩
      obtain ⟨O, hO⟩ := hgO
      have hOl : O.length = (f.classes.flatMap classText).length + ((f.rules.take i).flatMap ruleText).length := by rw [hO, List.length_append]
      rw [← hO] at h3
      refine wpL_seqW (wpL_blockW (wpL_seqV ?_))
      push_cast -dsimp [h32, indexAddrK_at hsa, D1]
      refine ⟨⟨by omega, by omega⟩, ?_⟩
      refine allocK (z := [.int .i64 0, .bool false, .pointer none, .pointer none]) (by kernel_rfl) ?_
      intro wa hwa
      have za := hwa.size
      push_cast -dsimp
      refine storeAgg (n := 4) (by kernel_rfl) hwa.blk rfl (by decide) (by simp [ptrP]; exact ⟨rfl, rfl, rfl, rfl⟩) ?_
      intro wc hwc
      have zc := hwc.size
      have hgk : ∃ kb, kb = wx.heap.size := ⟨_, rfl⟩
      obtain ⟨kb, hkb⟩ := hgk
      have Bc : Blk wc kb 44 [.int .i64 y.pos, .bool y.brk, ptrP u1, ptrP v1] := by rw [hkb]; exact hwc.blk
      have bxc : Below wx.heap.size wx wc := hwa.below.trans (hwc.kept.below (B := wx.heap.size) (by omega) (fun i h => by omega))
      have hbc := hb.trans (bxc.mono hb.size)
      have hbwc := hbw.trans (bxc.mono hbw.size)
      rw [← hkb]
      push_cast -dsimp
      refine wpL_seqC [3, 36, 37, 38, 39, 40, 41, 42] (fun z wx => z 3 = str (O ++ brkT y.brk) ∧ Below wc.heap.size wc wx) ?_ ?_
      · push_cast -dsimp [h3]
        refine makeMapG (key := fun b : Bool => Value.bool b) ?_
        intro wd m3 b3 z3
        push_cast -dsimp
        refine updateG_new (kt := 4) (et := 9) (k := true) (by kernel_rfl) (keyBool (by kernel_rfl)) m3 rfl rfl ?_
        intro we m4 k4 z4
        push_cast -dsimp
        refine updateG_new (kt := 4) (et := 9) (k := false) (by kernel_rfl) (keyBool (by kernel_rfl)) m4 rfl (by decide) ?_
        intro wf m5 k5 z5
        have m6 : MapG (fun b : Bool => Value.bool b) wf wc.heap.size brkL := m5
        have bcf : Below wc.heap.size wc wf := b3.trans ((k4.trans k5 (fun _ _ h => h)).below (by omega) (fun i h => by omega))
        have cb : wf.cell? ⟨kb, 1, none⟩ = some (.bool y.brk) := (Bc.below bcf Bc.lt).cell rfl
        push_cast -dsimp [cb]
        refine lookupG (kt := 4) (et := 9) (z := str []) (c := false) (k := y.brk) (by kernel_rfl) (keyBool (by kernel_rfl)) (by kernel_rfl) m6 ?_
        rw [if_neg (by decide), brkL_get]
        push_cast -dsimp [h3]
        exact ⟨by omega, bcf⟩
      · rintro z1 wd ⟨h3, bd⟩
        have Bd := Bc.below bd Bc.lt
        have hbwd := hbwc.trans (bd.mono hbwc.size)
        have e2 : wd.cell? ⟨kb, 2, none⟩ = some (ptrP u1) := Bd.cell rfl
        refine wpL_seqC [3, 8, 43, 44, 45, 46, 47, 48, 49, 50, 51] (fun z wx => z 3 = str (O ++ brkT y.brk ++ sideT (patText y.before 0)) ∧ Below wd.heap.size wd wx) ?_ ?_
        · push_cast -dsimp [e2]
          refine callK_of (rtext_c y.before hKo.1 hKh.1 (by omega) X _ wd (hV1.below hbwd) (hd.below hbwd hd.lt) (hp.below hbwd)) ?_
          rintro _ we ⟨rfl, be⟩
          by_cases hpe : patText y.before 0 = []
          · push_cast -dsimp [h3, hpe]
            exact ⟨by simp [sideT], be⟩
          · push_cast -dsimp [h3, hpe]
            simp only [List.length_append, List.length_cons, List.length_nil]
            exact ⟨by omega, by omega, by simp [sideT, hpe], be⟩
        rintro z2 we ⟨h3, be⟩
        have Be := Bd.below be Bd.lt
        have hbwe := hbwd.trans (be.mono hbwd.size)
        have e3 : we.cell? ⟨kb, 3, none⟩ = some (ptrP v1) := Be.cell rfl
        refine wpL_seqV ?_
        push_cast -dsimp [h3]
        simp only [List.length_append, List.length_cons, List.length_nil]
        refine ⟨by omega, ?_⟩
        refine wpL_seqC [3, 9, 54, 55, 56, 57, 58, 59, 60, 61, 62] (fun z wx => z 3 = str (O ++ brkT y.brk ++ sideT (patText y.before 0) ++ [58] ++ sideU (patText y.after 0)) ∧ Below we.heap.size we wx) ?_ ?_
        · push_cast -dsimp [e3]
          refine callK_of (rtext_c y.after hKo.2 hKh.2 (by omega) X _ we (hU1.below hbwe) (hd.below hbwe hd.lt) (hp.below hbwe)) ?_
          rintro _ wf ⟨rfl, bf⟩
          by_cases hpe : patText y.after 0 = []
          · push_cast -dsimp [hpe]
            exact ⟨by simp [sideU], bf⟩
          · push_cast -dsimp [hpe]
            simp only [List.length_append, List.length_cons, List.length_nil]
            exact ⟨by omega, by omega, by simp [sideU, hpe], bf⟩
        rintro z3 wf ⟨h3, bf⟩
        refine wpL_of ?_
        push_cast -dsimp [h3]
        simp only [List.length_append, List.length_cons, List.length_nil]
        refine ⟨by omega, ?_⟩
        refine wpL_of ?_
        push_cast -dsimp [h32]
        exact ⟨⟨by omega, by omega⟩, ⟨i + 1, rfl, (by rw [htk, ruleText_of, ← List.append_assoc, ← hO]; exact congrArg str (by simp)), by omega, hbc.trans (((bd.trans (be.mono bd.size)).trans (bf.mono (bd.trans (be.mono bd.size)).size)).mono hbc.size)⟩, by simp only [intOf, h32]; omega⟩
    · rintro z wx ⟨h3, hb⟩
      have d2 : wx.cell? ⟨w.heap.size, 2, none⟩ = some (.bool f.els) := (F hb).cell rfl
      push_cast -dsimp
      refine wpL_of ?_
      have hft : fileText f = f.classes.flatMap classText ++ f.rules.flatMap ruleText ++ elseText f.els := rfl
      cases hels : f.els with
      | true =>
        rw [hels] at d2 hft
        push_cast -dsimp [d2, h3]
        exact ⟨by rw [hft]; exact congrArg str (by simp [elseText]), b1.trans (hb.mono (by omega))⟩
      | false =>
        rw [hels] at d2 hft
        push_cast -dsimp [d2, h3]
        simp only [List.length_append]
        exact ⟨by omega, by rw [hft]; exact congrArg str (by simp [elseText]), b1.trans (hb.mono (by omega))⟩
end Go.Proofs.YtphebgkbkdjjoaaGreatDoor
end
section
namespace Go.Proofs.YtphebgkbkdjjoaaGreatDoor
open Go.Vc Go.Proofs Go.RowKit Cae
set_option maxRecDepth 100000
set_option linter.unusedSimpArgs false
set_option linter.unusedVariables false
attribute [local irreducible] wpL callK valK unitK runK Fun Sl Vc.Own vc vcOps opK pureK
set_option maxHeartbeats 4000000
def TextC (x : PatP) : Prop := PatOk x → pn x ≤ 100000000 → ∀ (least : Nat), least ≤ 2 → ∀ (X : Nat → Prop) (v : Value) (w : World), PatV X w v x → Db w →
    Fun Tryz.prog 30 [v, .int .i64 least] w fun r w' => r = str (patText x least) ∧ Below w.heap.size w w'
theorem text_one (k : KindP) : TextC (.one k) := by
  intro hok hpn least hle X v w hV hd
  simp only [PatV] at hV
  obtain ⟨b, u, rfl, hb, hB, h1⟩ := hV
  obtain ⟨b1, rfl, hb1⟩ := h1.ptr
  have d0 : w.cell? ⟨b, 0, none⟩ = some (.int .i64 1) := hB.cell rfl
  have d1 : w.cell? ⟨b, 1, none⟩ = some (.pointer (some ⟨b1, 0, none⟩)) := hB.cell rfl
  have hl : pn (.one k) = (kindText k true).length + 3 := by simp [pn, patText]
  simp only [PatOk] at hok
  refine fun_of_vc Tryz.func30 rfl (by kernel_rfl) [4] rfl ?_
  push_cast -dsimp (maxSteps := 4000000) [Tryz.ntmps30]
  push_cast -dsimp [d0, d1]
  refine callK_of (kindText_c k hok true (by omega) X _ w h1 hd) ?_
  rintro _ w2 ⟨rfl, hb2⟩
  push_cast -dsimp
  exact ⟨by simp only [patText], hb2⟩
theorem text_any : TextC .any := by
  intro hok hpn least hle X v w hV hd
  simp only [PatV] at hV
  obtain ⟨b, rfl, hb, hB⟩ := hV
  have d0 : w.cell? ⟨b, 0, none⟩ = some (.int .i64 2) := hB.cell rfl
  refine fun_of_vc Tryz.func30 rfl (by kernel_rfl) [4] rfl ?_
  push_cast -dsimp (maxSteps := 4000000) [Tryz.ntmps30]
  push_cast -dsimp [d0]
  exact ⟨by simp only [patText], Below.refl _ _⟩
theorem text_edge : TextC .edge := by
  intro hok hpn least hle X v w hV hd
  simp only [PatV] at hV
  obtain ⟨b, rfl, hb, hB⟩ := hV
  have d0 : w.cell? ⟨b, 0, none⟩ = some (.int .i64 3) := hB.cell rfl
  refine fun_of_vc Tryz.func30 rfl (by kernel_rfl) [4] rfl ?_
  push_cast -dsimp (maxSteps := 4000000) [Tryz.ntmps30]
  push_cast -dsimp [d0]
  exact ⟨by simp only [patText], Below.refl _ _⟩
theorem text_cat (l : List PatP) (hall : ∀ x ∈ l, TextC x) : TextC (.cat l) := by
  intro hok hpn least hle X v w hV hd
  simp only [PatV] at hV
  obtain ⟨b, sv, vs, rfl, hb, hB, hs, hV⟩ := hV
  have hsh := hs.shape
  obtain ⟨sa, sc, rfl, hsc⟩ := hsh
  have hpc := pn_in_cat (l := l)
  have hvl := hV.len
  simp only [PatOk] at hok
  have d0 : w.cell? ⟨b, 0, none⟩ = some (.int .i64 4) := hB.cell rfl
  have d2 : w.cell? ⟨b, 2, none⟩ = some (.slice sa l.length sc) := by rw [← hvl]; exact hB.cell rfl
  refine fun_of_vc Tryz.func30 rfl (by kernel_rfl) [4] rfl ?_
  push_cast -dsimp (maxSteps := 4000000) [Tryz.ntmps30]
  push_cast -dsimp [d0, d2]
  refine wpL_loop [7, 9, 51, 52, 53, 54, 55, 56, 57, 58, 59, 60] (fun z wx => ∃ (i : Nat) (ov : Value), z 51 = .int .i64 i ∧ z 7 = ov ∧ i ≤ l.length ∧ Vc.Own w.heap.size 9 1 Vc.encS wx ov (patTexts (l.take i) 2) ∧ Below w.heap.size w wx) (fun z _ => l.length - (intOf (z 51)).toNat) ?_ ?_
  · exact ⟨0, _, rfl, rfl, Nat.zero_le _, Vc.Own.nil (enc := Vc.encS) _ _ (fun _ => rfl) _, Below.refl _ _⟩
  · intro z wx hI
    obtain ⟨i, ov, h9, h3, hi, hox, hbx⟩ := hI
    have szx := hbx.size
    push_cast -dsimp [h9, h3]
    refine ⟨fun hlt => ?_, fun hge => ?_⟩
    · obtain ⟨x, hx, hxm, _, ht⟩ := lt_get (l := l) (i := i) (by omega)
      obtain ⟨u, hu, hVx⟩ := PatsV.nth hV hx
      obtain ⟨b1, o, rfl, hnb, hcell⟩ := (hs.below hbx).get hu
      have cx : wx.cell? ⟨b1, o + i, none⟩ = some (ptrP u) := by have := hcell 0 _ rfl; simpa using this
      have est : patTexts (l.take (i + 1)) 2 = patTexts (l.take i) 2 ++ [patText x 2] := by
        rw [ht, texts_map, texts_map, List.map_append]; rfl
      have hun : ptrP u = .pointer (some ⟨u, 0, none⟩) := rfl
      rw [hun] at cx
      push_cast -dsimp [cx, Nat.mul_one]
      refine ⟨⟨by omega, by omega⟩, ?_⟩
      obtain ⟨oa, oc, rfl⟩ := hox.slice
      refine callK_of (hall x hxm (patsOk_mem hok hxm) (by have := hpc.2.2 x hxm; omega) 2 (by decide) X _ wx (hVx.below hbx) (hd.below hbx hd.lt)) ?_
      rintro _ w5 ⟨rfl, hb5⟩
      have sz5 := hb5.size
      have ho5 := hox.below hb5
      have hB5 := hbx.trans (hb5.mono szx)
      push_cast -dsimp
      refine rowK elI_24 rfl rfl (by omega) ?_
      intro w7 hw7
      have sz7 : w7.heap.size = w5.heap.size + 1 := hw7.size
      have ho7 := ho5.new hw7
      push_cast -dsimp
      refine appendK2 (base := w.heap.size) [patText x 2] (enc := Vc.encS) elI_24 ho7 (by rfl) (fun j u hu => by rw [Nat.zero_add]; exact hw7.cell hu) (by simp [Vc.encS, str, Value.oneCell']) (by rw [texts_map]; simp only [List.length_cons, List.length_nil, List.length_map, List.length_take]; omega) (by omega) ?_
      intro v8 w8 ho8 hg8 hn8
      have hb8 : Below w.heap.size w w8 := (hB5.trans (hw7.below.mono (by omega))).trans ((Kept.grown (X := fun j => w.heap.size ≤ j) hg8 (fun k hk => (ho7.block k hk).1)).below (by omega) (fun _ h => h))
      rw [← est] at ho8
      push_cast -dsimp
      exact ⟨⟨by omega, by omega⟩, ⟨i + 1, _, rfl, rfl, by omega, ho8, hb8⟩, by rw [h9]; simp only [intOf]; omega⟩
    · have hin : i = l.length := by omega
      subst hin
      rw [List.take_length] at hox
      refine callK_of (join_c (patTexts l 2) [32] (by rw [texts_map, List.length_map]; omega) (by omega) _ _ wx hox.sl) ?_
      rintro _ w6 ⟨rfl, hb6⟩
      have hB6 := hbx.trans (hb6.mono szx)
      push_cast -dsimp
      refine ⟨fun hlt => ⟨by omega, by simp only [List.length_append, List.length_singleton]; omega, congrArg str ?_, hB6⟩, fun hge => ⟨congrArg str ?_, hB6⟩⟩
      · have : 1 < least := by omega
        simp [patText, inPar, this]
      · have : ¬ 1 < least := by omega
        simp [patText, inPar, this]
theorem text_alt (l : List PatP) (hall : ∀ x ∈ l, TextC x) : TextC (.alt l) := by
  intro hok hpn least hle X v w hV hd
  simp only [PatV] at hV
  obtain ⟨b, sv, vs, rfl, hb, hB, hs, hV⟩ := hV
  have hsh := hs.shape
  obtain ⟨sa, sc, rfl, hsc⟩ := hsh
  have hpc := pn_in_alt (l := l)
  have hvl := hV.len
  simp only [PatOk] at hok
  have d0 : w.cell? ⟨b, 0, none⟩ = some (.int .i64 5) := hB.cell rfl
  have d2 : w.cell? ⟨b, 2, none⟩ = some (.slice sa l.length sc) := by rw [← hvl]; exact hB.cell rfl
  refine fun_of_vc Tryz.func30 rfl (by kernel_rfl) [4] rfl ?_
  push_cast -dsimp (maxSteps := 4000000) [Tryz.ntmps30]
  push_cast -dsimp [d0, d2]
  refine wpL_loop [7, 11, 70, 71, 72, 73, 74, 75, 76, 77, 78, 79] (fun z wx => ∃ (i : Nat) (ov : Value), z 70 = .int .i64 i ∧ z 7 = ov ∧ i ≤ l.length ∧ Vc.Own w.heap.size 9 1 Vc.encS wx ov (patTexts (l.take i) 1) ∧ Below w.heap.size w wx) (fun z _ => l.length - (intOf (z 70)).toNat) ?_ ?_
  · exact ⟨0, _, rfl, rfl, Nat.zero_le _, Vc.Own.nil (enc := Vc.encS) _ _ (fun _ => rfl) _, Below.refl _ _⟩
  · intro z wx hI
    obtain ⟨i, ov, h9, h3, hi, hox, hbx⟩ := hI
    have szx := hbx.size
    push_cast -dsimp [h9, h3]
    refine ⟨fun hlt => ?_, fun hge => ?_⟩
    · obtain ⟨x, hx, hxm, _, ht⟩ := lt_get (l := l) (i := i) (by omega)
      obtain ⟨u, hu, hVx⟩ := PatsV.nth hV hx
      obtain ⟨b1, o, rfl, hnb, hcell⟩ := (hs.below hbx).get hu
      have cx : wx.cell? ⟨b1, o + i, none⟩ = some (ptrP u) := by have := hcell 0 _ rfl; simpa using this
      have est : patTexts (l.take (i + 1)) 1 = patTexts (l.take i) 1 ++ [patText x 1] := by
        rw [ht, texts_map, texts_map, List.map_append]; rfl
      have hun : ptrP u = .pointer (some ⟨u, 0, none⟩) := rfl
      rw [hun] at cx
      push_cast -dsimp [cx, Nat.mul_one]
      refine ⟨⟨by omega, by omega⟩, ?_⟩
      obtain ⟨oa, oc, rfl⟩ := hox.slice
      refine callK_of (hall x hxm (patsOk_mem hok hxm) (by have := hpc.2.2 x hxm; omega) 1 (by decide) X _ wx (hVx.below hbx) (hd.below hbx hd.lt)) ?_
      rintro _ w5 ⟨rfl, hb5⟩
      have sz5 := hb5.size
      have ho5 := hox.below hb5
      have hB5 := hbx.trans (hb5.mono szx)
      push_cast -dsimp
      refine rowK elI_24 rfl rfl (by omega) ?_
      intro w7 hw7
      have sz7 : w7.heap.size = w5.heap.size + 1 := hw7.size
      have ho7 := ho5.new hw7
      push_cast -dsimp
      refine appendK2 (base := w.heap.size) [patText x 1] (enc := Vc.encS) elI_24 ho7 (by rfl) (fun j u hu => by rw [Nat.zero_add]; exact hw7.cell hu) (by simp [Vc.encS, str, Value.oneCell']) (by rw [texts_map]; simp only [List.length_cons, List.length_nil, List.length_map, List.length_take]; omega) (by omega) ?_
      intro v8 w8 ho8 hg8 hn8
      have hb8 : Below w.heap.size w w8 := (hB5.trans (hw7.below.mono (by omega))).trans ((Kept.grown (X := fun j => w.heap.size ≤ j) hg8 (fun k hk => (ho7.block k hk).1)).below (by omega) (fun _ h => h))
      rw [← est] at ho8
      push_cast -dsimp
      exact ⟨⟨by omega, by omega⟩, ⟨i + 1, _, rfl, rfl, by omega, ho8, hb8⟩, by rw [h9]; simp only [intOf]; omega⟩
    · have hin : i = l.length := by omega
      subst hin
      rw [List.take_length] at hox
      refine callK_of (join_c (patTexts l 1) [32, 124, 32] (by rw [texts_map, List.length_map]; omega) (by omega) _ _ wx hox.sl) ?_
      rintro _ w6 ⟨rfl, hb6⟩
      have hB6 := hbx.trans (hb6.mono szx)
      push_cast -dsimp
      refine ⟨fun hlt => ⟨by omega, by simp only [List.length_append, List.length_singleton]; omega, congrArg str ?_, hB6⟩, fun hge => ⟨congrArg str ?_, hB6⟩⟩
      · have : 0 < least := by omega
        simp [patText, inPar, this]
      · have : ¬ 0 < least := by omega
        simp [patText, inPar, this]
end Go.Proofs.YtphebgkbkdjjoaaGreatDoor
end
section
namespace Go.Proofs.YtphebgkbkdjjoaaGreatDoor
open Go.Vc Go.Proofs Go.RowKit Cae
set_option maxRecDepth 100000
set_option linter.unusedSimpArgs false
set_option linter.unusedVariables false
attribute [local irreducible] wpL callK valK unitK runK Fun Sl Vc.Own vc vcOps opK pureK
set_option maxHeartbeats 4000000
theorem text_many (x : PatP) (lo hi : Int) (hx : TextC x) : TextC (.many x lo hi) := by
  intro hok hpn least hle X v w hV hd
  simp only [PatV] at hV
  obtain ⟨b, sv, u, rfl, hb, hB, hs, hV⟩ := hV
  obtain ⟨sa, sc, rfl, hsc⟩ := hs.shape
  obtain ⟨b1, o, rfl, hnb, hcell⟩ := hs.get (i := 0) (x := u) rfl
  have hun : ptrP u = .pointer (some ⟨u, 0, none⟩) := rfl
  have hlt : b1 < w.heap.size := World.block_lt_of_cell? w _ (hcell 0 _ rfl)
  simp only [PatOk] at hok
  have hl : pn (.many x lo hi) = pn x + (timesText lo hi).length := by simp [pn, patText]; omega
  have hpx : pn x = (patText x 2).length + 3 := rfl
  have htl := timesText_len lo hi
  have d0 : w.cell? ⟨b, 0, none⟩ = some (.int .i64 6) := hB.cell rfl
  have Bd := hB.drew
  have e2 : ∀ w'', Below w.drew.heap.size w.drew w'' → w''.cell? ⟨b, 2, none⟩ = some (.slice (some ⟨b1, o, none⟩) 1 sc) := fun w'' h => (Bd.below h Bd.lt).cell rfl
  have e3 : ∀ w'', Below w.drew.heap.size w.drew w'' → w''.cell? ⟨b, 3, none⟩ = some (.int .i64 lo) := fun w'' h => (Bd.below h Bd.lt).cell rfl
  have e4 : ∀ w'', Below w.drew.heap.size w.drew w'' → w''.cell? ⟨b, 4, none⟩ = some (.int .i64 hi) := fun w'' h => (Bd.below h Bd.lt).cell rfl
  have ex : ∀ w'', Below w.drew.heap.size w.drew w'' → w''.cell? ⟨b1, o, none⟩ = some (.pointer (some ⟨u, 0, none⟩)) := fun w'' h => (h.cell (by show b1 < w.heap.size; omega)).trans (by have := hcell 0 _ rfl; rw [hun] at this; simpa using this)
  have hr := Below.refl w.drew.heap.size w.drew
  refine fun_of_vc Tryz.func30 rfl (by kernel_rfl) [4] rfl ?_
  push_cast -dsimp (maxSteps := 4000000) [Tryz.ntmps30]
  push_cast -dsimp [d0]
  refine wpL_draw (fun w' => Below w.drew.heap.size w.drew w') mixed (by kernel_rfl) (Below.refl _ _) ?_
  push_cast -dsimp [e2 _ hr, ex _ hr]
  refine ⟨fun w'' h => by rw [e2 _ h]; exact rfl, fun w'' h => by rw [ex _ h]; exact rfl, ?_⟩
  refine callK_of (hx hok.1 (by omega) 2 (by decide) X _ w.drew hV.drew hd) ?_
  rintro _ w2 ⟨rfl, hb2⟩
  refine ⟨hb2, ?_⟩
  push_cast -dsimp [e3 _ hb2, e4 _ hb2]
  refine ⟨fun w'' h => by rw [e3 _ h]; exact rfl, fun w'' h => by rw [e4 _ h]; exact rfl, ?_⟩
  refine callK_of (timesT_c lo hi hok.2.1 hok.2.2.1 hok.2.2.2.1 w2) ?_
  rintro _ _ ⟨rfl, rfl⟩
  refine ⟨hb2, ?_⟩
  have hbw := (below_drew w).trans hb2
  push_cast -dsimp
  simp only [List.length_append, List.length_singleton]
  exact ⟨by omega, fun h => by omega, fun h => ⟨congrArg str (by simp [patText]), hbw⟩⟩
mutual
theorem text_c : ∀ x, TextC x
  | .one k => text_one k
  | .any => text_any
  | .edge => text_edge
  | .cat l => text_cat l (texts_c l)
  | .alt l => text_alt l (texts_c l)
  | .many x lo hi => text_many x lo hi (text_c x)
theorem texts_c : ∀ (l : List PatP) (x : PatP), x ∈ l → TextC x
  | [], x, h => by cases h
  | y :: l, x, h => by
    have hy := text_c y
    rcases List.mem_cons.1 h with h | h
    · rw [h]; exact hy
    · exact texts_c l x h
end
theorem ruleText_c (x : PatP) (hok : PatOk x) (hpn : pn x ≤ 100000000) (X : Nat → Prop) (v : Value) (w : World) (hv : PatV X w v x) (hd : Db w) :
    Fun Tryz.prog 10 [v] w fun r w' => r = str (patText x 0) ∧ Below w.heap.size w w' := by
  obtain ⟨b, rfl, _, _⟩ := hv.ptr
  refine fun_of_vc Tryz.func10 rfl (by kernel_rfl) [2] rfl ?_
  push_cast -dsimp (maxSteps := 4000000) [Tryz.ntmps10]
  refine callK_of (text_c x hok hpn 0 (by decide) X _ w hv hd) ?_
  rintro _ w2 ⟨rfl, hb2⟩
  push_cast -dsimp
  exact hb2
end Go.Proofs.YtphebgkbkdjjoaaGreatDoor
end
section
namespace Go.Proofs.YtphebgkbkdjjoaaGreatDoor
open Go.Vc Go.Proofs Go.RowKit Cae
set_option maxRecDepth 100000
set_option linter.unusedSimpArgs false
set_option linter.unusedVariables false
attribute [local irreducible] wpL callK valK unitK runK Fun Sl Vc.Own vc vcOps opK pureK
set_option maxHeartbeats 4000000
/-- A builder of the call's own, that holds l. -/
def Bu (B b : Nat) (l : List UInt8) (w : World) : Prop := Lib.IsBuilderF 90 5 B b (Lib.byteCells l) w
theorem Bu.below {B b : Nat} {l : List UInt8} {w w' : World} (h : Bu B b l w) (hb : Below w.heap.size w w') : Bu B b l w' := by
  have one : ∀ {p : Value}, Lib.BuilderAtF 90 5 B b p (Lib.byteCells l) w → Lib.BuilderAtF 90 5 B b p (Lib.byteCells l) w' := by
    intro p h
    have hlt := h.lt
    obtain ⟨hB, v, hv, hown, hne⟩ := h
    exact ⟨hB, v, (hb.block b hlt).trans hv, hown.kept (row := none) ⟨hb.os, hb.tape, hb.output, hb.size, fun k hk _ => hb.block k hk⟩ (Classical.em _), hne⟩
  exact h.elim (fun x => .inl (one x)) (fun x => .inr (one x))
theorem write_c (B b : Nat) (l s : List UInt8) (w : World) (h : Bu B b l w) (hlen : l.length + s.length ≤ 1000000000) (hB : B ≤ w.heap.size) :
    Fun Tryz.prog 34 [.pointer (some ⟨b, 0, none⟩), str s] w fun _ w' => Bu B b (l ++ s) w' ∧ Below B w w' := by
  refine fun_of_calls Tryz.func34 (by kernel_rfl) (by kernel_rfl) ?_
  have e : (⟨s.toArray⟩ : ByteArray).size = s.length := by simp [ByteArray.size]
  refine Calls.mono (Any.Builder_WriteString_k { joinR with } joinX B b (Lib.byteCells l) ⟨s.toArray⟩ w h (by rw [e, Lib.byteCells_length]; omega) hB) ?_
  rintro _ w' ⟨rfl, h1, h2, _⟩
  refine ⟨_, rfl, .inr ?_, h2⟩
  rw [Lib.byteCells_append]
  exact h1
theorem bstring_c (B b : Nat) (l : List UInt8) (w : World) (h : Bu B b l w) (hB : B ≤ w.heap.size) :
    Fun Tryz.prog 36 [.pointer (some ⟨b, 0, none⟩)] w fun r w' => r = str l ∧ Below B w w' := by
  refine fun_of_calls Tryz.func36 (by kernel_rfl) (by kernel_rfl) ?_
  refine Calls.mono (Any.Builder_String_any_k { joinR with } joinX B b l w h hB) ?_
  rintro _ w' ⟨rfl, h1, h2, _⟩
  exact ⟨_, rfl, rfl, h2⟩
theorem Bu.fresh {w w' : World} {b : Nat} (h : New w w' 90 [.pointer none, .slice none 0 0]) (hb : b = w.heap.size) (B : Nat) (hB : B ≤ b) : Bu B b [] w' := by
  subst hb
  refine .inl ⟨hB, .slice none 0 0, h.blk, ?_, by simp [Value.ownBlock]⟩
  exact ⟨by simp, .inl ⟨rfl, rfl⟩⟩
end Go.Proofs.YtphebgkbkdjjoaaGreatDoor
end
section
namespace Go.Proofs.YtphebgkbkdjjoaaGreatDoor
open Go.Vc Go.Proofs Go.RowKit Cae
set_option maxRecDepth 100000
set_option linter.unusedSimpArgs false
set_option linter.unusedVariables false
attribute [local irreducible] wpL callK valK unitK runK Fun Sl Vc.Own vc vcOps opK pureK
set_option maxHeartbeats 4000000
theorem print_walk (f : FileP) (hok : FileOk f) (hlen : (fileText f).length ≤ 50000000) (hc1 : f.classes.length ≤ 1000) (hr1 : f.rules.length ≤ 1000) (X : Nat → Prop) (v : Value) (w : World) (hv : FileV X w v f) (hd : Db w) :
    Fun Tryz.prog 12 [v] w fun r w' => r = str (fileText f) ∧ Below w.heap.size w w' := by
  obtain ⟨cv, rv, cs, rs, rfl, S1, S2, A1, A2⟩ := hv
  have hsh1 := S1.shape
  obtain ⟨ca, cc, rfl, hcc⟩ := hsh1
  have hsh2 := S2.shape
  obtain ⟨ra, rc, rfl, hrc⟩ := hsh2
  have l1 := A1.len
  have l2 := A2.len
  refine fun_of_vc Tryz.func12 rfl (by kernel_rfl) [2] rfl ?_
  push_cast -dsimp (maxSteps := 4000000) [Tryz.ntmps12]
  refine boxK_of ?_
  intro w1 hw1
  have B1 := hw1.blk
  have z1 := hw1.size
  have b1 := hw1.below
  push_cast -dsimp [z1]
  refine allocK (z := [.pointer none, .slice none 0 0]) (by kernel_rfl) ?_
  intro w2 hw2
  have BX2 := B1.below hw2.below (by omega)
  have z2 := hw2.size
  have b2 := b1.trans (hw2.below.mono (by omega))
  have U2 : Bu (w.heap.size + 1) (w.heap.size + 1) [] w2 := Bu.fresh hw2 (by omega) _ (by omega)
  have d20 : w2.cell? ⟨w.heap.size, 0, none⟩ = some (.slice ca cs.length cc) := BX2.cell rfl
  have hcl : (f.classes.flatMap classText).length ≤ (fileText f).length := by unfold fileText; rw [List.length_append, List.length_append]; omega
  push_cast -dsimp [d20, z1]
  refine wpL_loop [5, 14, 15, 16, 17, 18, 19, 20, 21, 22, 23, 24, 25, 26, 27, 28] (fun z wx => ∃ i : Nat, z 14 = .int .i64 i ∧ i ≤ f.classes.length ∧ Bu (w.heap.size + 1) (w.heap.size + 1) ((f.classes.take i).flatMap classText) wx ∧ Below (w.heap.size + 1) w2 wx) (fun z _ => f.classes.length - (intOf (z 14)).toNat) ?_ ?_
  · exact ⟨0, rfl, Nat.zero_le _, U2, Below.refl _ _⟩
  · intro z wx hI
    obtain ⟨i, h14, hi, hU, hbx⟩ := hI
    have zx := hbx.size
    push_cast -dsimp [h14]
    refine ⟨fun hlt => ?_, fun hge => ?_⟩
    · obtain ⟨c, hc, hcm, _, ht⟩ := lt_get (l := f.classes) (i := i) (by omega)
      obtain ⟨a, ha, hca⟩ := A1.at hc
      obtain ⟨n1, n2, hK⟩ := hca
      have hbw : Below w.heap.size w wx := b2.trans (hbx.mono (by omega))
      obtain ⟨b, o, rfl, hnb, hcell⟩ := (S1.below hbw).get ha
      have cx : cellsAt wx ⟨b, o + i * 3, none⟩ 0 3 = some [str a.1, .int .i64 a.2.1, .pointer (some ⟨a.2.2, 0, none⟩)] := cellsAt_of (encC a) 0 (fun j u hu => by simpa using hcell j u hu)
      push_cast -dsimp [cx]
      refine ⟨⟨by omega, by omega⟩, ?_⟩
      refine allocK (z := [str [], .int .i64 0, .pointer none]) (by kernel_rfl) ?_
      intro w3 hw3
      have z3 := hw3.size
      push_cast -dsimp
      refine storeAgg (n := 3) (by kernel_rfl) hw3.blk rfl (by simp) (by simp; exact ⟨rfl, rfl, rfl⟩) ?_
      intro w4 hw4
      have z4 := hw4.size
      have B4 := hw4.blk
      have hb4 : Below wx.heap.size wx w4 := hw3.below.trans (hw4.kept.below (B := wx.heap.size) (by omega) (fun i h => by omega))
      have hbw4 := hbw.trans (hb4.mono (by omega))
      have Bd := B4.drew
      have e0 : ∀ w'', Below w4.drew.heap.size w4.drew w'' → w''.cell? ⟨wx.heap.size, 0, none⟩ = some (str a.1) := fun w'' h => (Bd.below h Bd.lt).cell rfl
      have e2 : ∀ w'', Below w4.drew.heap.size w4.drew w'' → w''.cell? ⟨wx.heap.size, 2, none⟩ = some (.pointer (some ⟨a.2.2, 0, none⟩)) := fun w'' h => (Bd.below h Bd.lt).cell rfl
      have hr := Below.refl w4.drew.heap.size w4.drew
      have hct : classText c = [99, 108, 97, 115, 115, 32] ++ c.name ++ [32, 61, 32] ++ kindText c.kind false ++ [59, 10] := rfl
      have hcl2 : (classText c).length ≤ (f.classes.flatMap classText).length := flatS_mem classText hcm
      rw [hct] at hcl2
      simp only [List.length_append, List.length_cons, List.length_nil] at hcl2
      have hkl := kt_len c.kind
      have htl := flatS_take classText f.classes i
      push_cast -dsimp
      refine wpL_last (fun w' => Below w4.drew.heap.size w4.drew w') mixed (by kernel_rfl) (by simp) (Below.refl _ _) ?_
      push_cast -dsimp [e0 _ hr, e2 _ hr]
      rw [n1]
      simp only [List.length_append, List.length_cons, List.length_nil]
      refine ⟨fun w'' h => by rw [e0 _ h, n1]; exact rfl, by omega, by omega, fun w'' h => by rw [e2 _ h]; exact rfl, ?_⟩
      refine callK_of (kindText_c c.kind (hok.1 c hcm) false (by omega) X (ptrP a.2.2) w4.drew ((hK.below hbw4).drew) (show Db w4.drew from (hd.below hbw4 hd.lt : Db w4))) ?_
      rintro _ w5 ⟨rfl, hb5⟩
      refine ⟨hb5, ?_⟩
      have z5 : w4.heap.size ≤ w5.heap.size := hb5.size
      have U5 := ((hU.below hb4).below (below_drew w4)).below hb5
      push_cast -dsimp [n1]
      simp only [List.length_append, List.length_cons, List.length_nil]
      refine ⟨by omega, by omega, ?_⟩
      refine callK_of (write_c _ _ _ (classText c) w5 U5 (by rw [hct]; simp only [List.length_append, List.length_cons, List.length_nil]; omega) (by omega)) ?_
      rintro _ w6 ⟨U6, hb6⟩
      push_cast -dsimp
      have z6 := hb6.size
      refine ⟨⟨by omega, by omega⟩, ⟨i + 1, rfl, by omega, by rw [ht, List.flatMap_append, List.flatMap_singleton]; exact U6, ?_⟩, by rw [h14]; simp only [intOf]; omega⟩
      have h1 : Below (w.heap.size + 1) wx w4.drew := (hb4.trans (below_drew w4 |>.mono (by omega))).mono (by omega)
      exact (hbx.trans h1).trans ((hb5.mono (by show w.heap.size + 1 ≤ w4.heap.size; omega)).trans hb6)
    · have hin : i = f.classes.length := by omega
      subst hin
      rw [List.take_length] at hU
      have BXx : Blk wx w.heap.size 28 [.slice ca cs.length cc, .slice ra rs.length rc, .bool f.els] := BX2.below hbx (by omega)
      have d21 : wx.cell? ⟨w.heap.size, 1, none⟩ = some (.slice ra rs.length rc) := BXx.cell rfl
      have hbw : Below w.heap.size w wx := b2.trans (hbx.mono (by omega))
      have hcl3 : (f.rules.flatMap ruleText).length + (f.classes.flatMap classText).length ≤ (fileText f).length := by unfold fileText; rw [List.length_append, List.length_append]; omega
      push_cast -dsimp [d21]
      refine wpL_loop [7, 8, 9, 10, 32, 33, 34, 35, 36, 37, 38, 39, 40, 41, 42, 43, 44, 45, 46, 47, 48, 49, 50, 51, 52, 53, 54, 55, 56, 57, 58, 59, 60, 61] (fun z wy => ∃ i : Nat, z 32 = .int .i64 i ∧ i ≤ f.rules.length ∧ Bu (w.heap.size + 1) (w.heap.size + 1) (f.classes.flatMap classText ++ (f.rules.take i).flatMap ruleText) wy ∧ Below (w.heap.size + 1) w2 wy) (fun z _ => f.rules.length - (intOf (z 32)).toNat) ?_ ?_
      · exact ⟨0, rfl, Nat.zero_le _, by simpa using hU, hbx⟩
      clear d21 BXx hbw zx hU hbx h14
      intro z wx hI
      obtain ⟨i, h32, hi, hU, hbx⟩ := hI
      have zx := hbx.size
      push_cast -dsimp [h32]
      refine ⟨fun hlt => ?_, fun hge => ?_⟩
      · obtain ⟨c, hc, hcm, _, ht⟩ := lt_get (l := f.rules) (i := i) (by omega)
        obtain ⟨a, ha, hca⟩ := A2.at hc
        obtain ⟨n1, n2, hV1, hV2⟩ := hca
        have hbw : Below w.heap.size w wx := b2.trans (hbx.mono (by omega))
        obtain ⟨b, o, rfl, hnb, hcell⟩ := (S2.below hbw).get ha
        have cx : cellsAt wx ⟨b, o + i * 4, none⟩ 0 4 = some [.int .i64 a.1, .bool a.2.1, .pointer (some ⟨a.2.2.1, 0, none⟩), .pointer (some ⟨a.2.2.2, 0, none⟩)] := cellsAt_of (encRu a) 0 (fun j u hu => by simpa using hcell j u hu)
        push_cast -dsimp [cx]
        refine ⟨⟨by omega, by omega⟩, ?_⟩
        refine allocK (z := [.int .i64 0, .bool false, .pointer none, .pointer none]) (by kernel_rfl) ?_
        intro w3 hw3
        have z3 := hw3.size
        push_cast -dsimp
        refine storeAgg (n := 4) (by kernel_rfl) hw3.blk rfl (by simp) (by simp; exact ⟨rfl, rfl, rfl, rfl⟩) ?_
        intro w4 hw4
        have z4 := hw4.size
        have B4 := hw4.blk
        have hb4 : Below wx.heap.size wx w4 := hw3.below.trans (hw4.kept.below (B := wx.heap.size) (by omega) (fun i h => by omega))
        have hbw4 := hbw.trans (hb4.mono (by omega))
        have d41 : w4.cell? ⟨wx.heap.size, 1, none⟩ = some (.bool a.2.1) := B4.cell rfl
        have d42 : w4.cell? ⟨wx.heap.size, 2, none⟩ = some (.pointer (some ⟨a.2.2.1, 0, none⟩)) := B4.cell rfl
        have hrl := rt_len c
        have hrl2 : (ruleText c).length ≤ (f.rules.flatMap ruleText).length := flatS_mem ruleText hcm
        have hp1 := pt_zero c.before
        have hp2 := pt_zero c.after
        have hpn1 : pn c.before = (patText c.before 2).length + 3 := rfl
        have hpn2 : pn c.after = (patText c.after 2).length + 3 := rfl
        have htl := flatS_take ruleText f.rules i
        rw [n2] at d41
        push_cast -dsimp [d41, d42]
        cases hbrk : c.brk with
        | true =>
          push_cast -dsimp [d42]
          refine callK_of (ruleText_c c.before (hok.2 c hcm).1 (by omega) X (ptrP a.2.2.1) w4 (hV1.below hbw4) (hd.below hbw4 hd.lt)) ?_
          rintro _ w5 ⟨rfl, hb5⟩
          have hb5w := hbw4.trans (hb5.mono hbw4.size)
          have d53 : w5.cell? ⟨wx.heap.size, 3, none⟩ = some (.pointer (some ⟨a.2.2.2, 0, none⟩)) := (B4.below hb5 B4.lt).cell rfl
          push_cast -dsimp [d53]
          simp only [List.length_append, List.length_cons, List.length_nil]
          refine ⟨fun p1 => ⟨by omega, by omega, by omega, ?_⟩, fun p1' => ?_⟩
          ·
            refine callK_of (ruleText_c c.after (hok.2 c hcm).2 (by omega) X (ptrP a.2.2.2) w5 (hV2.below hb5w) (hd.below hb5w hd.lt)) ?_
            rintro _ w6 ⟨rfl, hb6⟩
            have U6 := ((hU.below hb4).below hb5).below hb6
            have z5 := hb5.size
            have z6 := hb6.size
            have hb6x : Below (w.heap.size + 1) w2 w6 := ((hbx.trans (hb4.mono (by omega))).trans (hb5.mono (by omega))).trans (hb6.mono (by omega))
            push_cast -dsimp
            simp only [List.length_append, List.length_cons, List.length_nil]
            refine ⟨fun p2 => ⟨by omega, by omega, by omega, ?_⟩, fun p2' => ⟨by omega, ?_⟩⟩
            ·
              refine callK_of (write_c _ _ _ _ w6 U6 (by simp only [List.length_append, List.length_cons, List.length_nil]; omega) (by omega)) ?_
              rintro _ w7 ⟨U7, hb7⟩
              push_cast -dsimp
              refine ⟨⟨by omega, by omega⟩, ⟨i + 1, rfl, by omega, ?_, hb6x.trans hb7⟩, by rw [h32]; simp only [intOf]; omega⟩
              rw [ht, List.flatMap_append, List.flatMap_singleton]
              simpa [ruleText, hbrk, p1, p2] using U7
            ·
              have p2 := Classical.not_not.1 p2'
              refine callK_of (write_c _ _ _ _ w6 U6 (by simp only [List.length_append, List.length_cons, List.length_nil]; omega) (by omega)) ?_
              rintro _ w7 ⟨U7, hb7⟩
              push_cast -dsimp
              refine ⟨⟨by omega, by omega⟩, ⟨i + 1, rfl, by omega, ?_, hb6x.trans hb7⟩, by rw [h32]; simp only [intOf]; omega⟩
              rw [ht, List.flatMap_append, List.flatMap_singleton]
              simpa [ruleText, hbrk, p1, p2] using U7
          ·
            have p1 := Classical.not_not.1 p1'
            refine callK_of (ruleText_c c.after (hok.2 c hcm).2 (by omega) X (ptrP a.2.2.2) w5 (hV2.below hb5w) (hd.below hb5w hd.lt)) ?_
            rintro _ w6 ⟨rfl, hb6⟩
            have U6 := ((hU.below hb4).below hb5).below hb6
            have z5 := hb5.size
            have z6 := hb6.size
            have hb6x : Below (w.heap.size + 1) w2 w6 := ((hbx.trans (hb4.mono (by omega))).trans (hb5.mono (by omega))).trans (hb6.mono (by omega))
            push_cast -dsimp
            simp only [List.length_append, List.length_cons, List.length_nil]
            refine ⟨fun p2 => ⟨by omega, by omega, by omega, ?_⟩, fun p2' => ⟨by omega, ?_⟩⟩
            ·
              refine callK_of (write_c _ _ _ _ w6 U6 (by simp only [List.length_append, List.length_cons, List.length_nil]; omega) (by omega)) ?_
              rintro _ w7 ⟨U7, hb7⟩
              push_cast -dsimp
              refine ⟨⟨by omega, by omega⟩, ⟨i + 1, rfl, by omega, ?_, hb6x.trans hb7⟩, by rw [h32]; simp only [intOf]; omega⟩
              rw [ht, List.flatMap_append, List.flatMap_singleton]
              simpa [ruleText, hbrk, p1, p2] using U7
            ·
              have p2 := Classical.not_not.1 p2'
              refine callK_of (write_c _ _ _ _ w6 U6 (by simp only [List.length_append, List.length_cons, List.length_nil]; omega) (by omega)) ?_
              rintro _ w7 ⟨U7, hb7⟩
              push_cast -dsimp
              refine ⟨⟨by omega, by omega⟩, ⟨i + 1, rfl, by omega, ?_, hb6x.trans hb7⟩, by rw [h32]; simp only [intOf]; omega⟩
              rw [ht, List.flatMap_append, List.flatMap_singleton]
              simpa [ruleText, hbrk, p1, p2] using U7
        | false =>
          push_cast -dsimp [d42]
          refine callK_of (ruleText_c c.before (hok.2 c hcm).1 (by omega) X (ptrP a.2.2.1) w4 (hV1.below hbw4) (hd.below hbw4 hd.lt)) ?_
          rintro _ w5 ⟨rfl, hb5⟩
          have hb5w := hbw4.trans (hb5.mono hbw4.size)
          have d53 : w5.cell? ⟨wx.heap.size, 3, none⟩ = some (.pointer (some ⟨a.2.2.2, 0, none⟩)) := (B4.below hb5 B4.lt).cell rfl
          push_cast -dsimp [d53]
          simp only [List.length_append, List.length_cons, List.length_nil]
          refine ⟨fun p1 => ⟨by omega, by omega, by omega, ?_⟩, fun p1' => ?_⟩
          ·
            refine callK_of (ruleText_c c.after (hok.2 c hcm).2 (by omega) X (ptrP a.2.2.2) w5 (hV2.below hb5w) (hd.below hb5w hd.lt)) ?_
            rintro _ w6 ⟨rfl, hb6⟩
            have U6 := ((hU.below hb4).below hb5).below hb6
            have z5 := hb5.size
            have z6 := hb6.size
            have hb6x : Below (w.heap.size + 1) w2 w6 := ((hbx.trans (hb4.mono (by omega))).trans (hb5.mono (by omega))).trans (hb6.mono (by omega))
            push_cast -dsimp
            simp only [List.length_append, List.length_cons, List.length_nil]
            refine ⟨fun p2 => ⟨by omega, by omega, by omega, ?_⟩, fun p2' => ⟨by omega, ?_⟩⟩
            ·
              refine callK_of (write_c _ _ _ _ w6 U6 (by simp only [List.length_append, List.length_cons, List.length_nil]; omega) (by omega)) ?_
              rintro _ w7 ⟨U7, hb7⟩
              push_cast -dsimp
              refine ⟨⟨by omega, by omega⟩, ⟨i + 1, rfl, by omega, ?_, hb6x.trans hb7⟩, by rw [h32]; simp only [intOf]; omega⟩
              rw [ht, List.flatMap_append, List.flatMap_singleton]
              simpa [ruleText, hbrk, p1, p2] using U7
            ·
              have p2 := Classical.not_not.1 p2'
              refine callK_of (write_c _ _ _ _ w6 U6 (by simp only [List.length_append, List.length_cons, List.length_nil]; omega) (by omega)) ?_
              rintro _ w7 ⟨U7, hb7⟩
              push_cast -dsimp
              refine ⟨⟨by omega, by omega⟩, ⟨i + 1, rfl, by omega, ?_, hb6x.trans hb7⟩, by rw [h32]; simp only [intOf]; omega⟩
              rw [ht, List.flatMap_append, List.flatMap_singleton]
              simpa [ruleText, hbrk, p1, p2] using U7
          ·
            have p1 := Classical.not_not.1 p1'
            refine callK_of (ruleText_c c.after (hok.2 c hcm).2 (by omega) X (ptrP a.2.2.2) w5 (hV2.below hb5w) (hd.below hb5w hd.lt)) ?_
            rintro _ w6 ⟨rfl, hb6⟩
            have U6 := ((hU.below hb4).below hb5).below hb6
            have z5 := hb5.size
            have z6 := hb6.size
            have hb6x : Below (w.heap.size + 1) w2 w6 := ((hbx.trans (hb4.mono (by omega))).trans (hb5.mono (by omega))).trans (hb6.mono (by omega))
            push_cast -dsimp
            simp only [List.length_append, List.length_cons, List.length_nil]
            refine ⟨fun p2 => ⟨by omega, by omega, by omega, ?_⟩, fun p2' => ⟨by omega, ?_⟩⟩
            ·
              refine callK_of (write_c _ _ _ _ w6 U6 (by simp only [List.length_append, List.length_cons, List.length_nil]; omega) (by omega)) ?_
              rintro _ w7 ⟨U7, hb7⟩
              push_cast -dsimp
              refine ⟨⟨by omega, by omega⟩, ⟨i + 1, rfl, by omega, ?_, hb6x.trans hb7⟩, by rw [h32]; simp only [intOf]; omega⟩
              rw [ht, List.flatMap_append, List.flatMap_singleton]
              simpa [ruleText, hbrk, p1, p2] using U7
            ·
              have p2 := Classical.not_not.1 p2'
              refine callK_of (write_c _ _ _ _ w6 U6 (by simp only [List.length_append, List.length_cons, List.length_nil]; omega) (by omega)) ?_
              rintro _ w7 ⟨U7, hb7⟩
              push_cast -dsimp
              refine ⟨⟨by omega, by omega⟩, ⟨i + 1, rfl, by omega, ?_, hb6x.trans hb7⟩, by rw [h32]; simp only [intOf]; omega⟩
              rw [ht, List.flatMap_append, List.flatMap_singleton]
              simpa [ruleText, hbrk, p1, p2] using U7
      · have hin : i = f.rules.length := by omega
        subst hin
        rw [List.take_length] at hU
        have BXx : Blk wx w.heap.size 28 [.slice ca cs.length cc, .slice ra rs.length rc, .bool f.els] := BX2.below hbx (by omega)
        have d22 : wx.cell? ⟨w.heap.size, 2, none⟩ = some (.bool f.els) := BXx.cell rfl
        have hbw : Below w.heap.size w wx := b2.trans (hbx.mono (by omega))
        cases hels : f.els with
        | true =>
          rw [hels] at d22
          push_cast -dsimp [d22]
          refine callK_of (bstring_c _ _ _ wx hU (by omega)) ?_
          rintro _ w7 ⟨rfl, hb7⟩
          push_cast -dsimp
          exact ⟨congrArg str (by simp [fileText, elseText, hels]), hbw.trans (hb7.mono (by omega))⟩
        | false =>
          rw [hels] at d22
          push_cast -dsimp [d22]
          refine callK_of (write_c _ _ _ [101, 108, 115, 101, 32, 107, 101, 101, 112, 59, 10] wx hU (by simp only [List.length_append, List.length_cons, List.length_nil]; omega) (by omega)) ?_
          rintro _ w7 ⟨U7, hb7⟩
          have z7 := hb7.size
          push_cast -dsimp
          refine callK_of (bstring_c _ _ _ w7 U7 (by omega)) ?_
          rintro _ w8 ⟨rfl, hb8⟩
          push_cast -dsimp
          exact ⟨congrArg str (by simp [fileText, elseText, hels]), (hbw.trans (hb7.mono (by omega))).trans (hb8.mono (by omega))⟩
end Go.Proofs.YtphebgkbkdjjoaaGreatDoor
end
section
/- RuleReads, walked. -/
namespace Go.Proofs.YtphebgkbkdjjoaaGreatDoor
open Go.Vc Go.Proofs Go.RowKit Cae
set_option maxRecDepth 100000
set_option linter.unusedSimpArgs false
set_option linter.unusedVariables false
attribute [local irreducible] wpL callK valK unitK runK Fun Sl Vc.Own vc vcOps opK pureK
set_option maxHeartbeats 40000000
theorem fileOf_hi (s : List UInt8) (hs : s.length ≤ 1000000) : (∀ r ∈ (fileOf s).rules, HiOk r.before ∧ HiOk r.after) ∧ (fileText (fileOf s)).length ≤ 11 * s.length + 60 := by
  unfold fileOf
  cases h : parseR s with
  | error e =>
    dsimp only
    refine ⟨fun r hr => (by cases hr), ?_⟩
    have : (fileText ⟨[], [], false⟩).length = 11 := by decide
    omega
  | ok f => exact ⟨parse_hi hs h, text_len h⟩
theorem FileV.rules {X : Nat → Prop} {w : World} {a1 a2 : Option Addr} {n1 c1 n2 c2 : Nat} {e : Bool} {f : FileP} (h : FileV X w (.agg #[.slice a1 n1 c1, .slice a2 n2 c2, .bool e]) f) : ∃ rs, n2 = f.rules.length ∧ rs.length = f.rules.length ∧ Sl X 4 (En encRu) w (.slice a2 n2 c2) rs ∧ All2 (RulR X w) rs f.rules := by
  obtain ⟨cv, rv, cs, rs, he, S1, S2, A1, A2⟩ := h
  have h2 : rv = .slice a2 n2 c2 := by
    have := Value.agg.inj he
    simp at this
    exact this.2.1.symm
  subst h2
  obtain ⟨a, c, hs, _⟩ := S2.shape
  have hl := A2.len
  cases hs
  exact ⟨rs, hl, hl, S2, A2⟩
theorem ruleReads_c (s : List UInt8) (w : World) (hg : Gr w) (hE : ErrVar w) (hp : Pw w) (hn : 13 ≤ w.heap.size) : Fun Tryz.prog 4 [str s] w fun r w' => r = .bool true ∧ Below w.heap.size w w' := by
  refine fun_of_wL Tryz.func4 rfl (by kernel_rfl) [2] rfl ?_
  push_cast -dsimp (maxSteps := 4000000) [Tryz.ntmps4]
  refine wpL_seqV ?_
  push_cast -dsimp
  refine wpL_seqV ?_
  push_cast -dsimp
  refine ⟨fun h20 => Below.refl _ _, fun h20 => ?_⟩
  have hfo := fileOf_ok s (by omega)
  have hfh := fileOf_hi s (by omega)
  refine wpL_seqV ?_
  push_cast -dsimp
  refine callK_of (refParse_c s (by omega) w hg) ?_
  rintro r wa ⟨hR, ba⟩
  obtain ⟨v, rfl, hv⟩ := refRead hR
  obtain ⟨cv, rv, ⟨a1, n1, c1, rfl⟩, ⟨a2, n2, c2, rfl⟩, rfl, hF⟩ := hv
  have za := ba.size
  push_cast -dsimp
  refine allocK (z := [.slice none 0 0, .slice none 0 0, .bool false]) (by kernel_rfl) ?_
  intro wb hwb
  have zb := hwb.size
  push_cast -dsimp
  refine allocK (z := [.int .i64 0, .int .i64 0]) (by kernel_rfl) ?_
  intro wc hwc
  have zc := hwc.size
  push_cast -dsimp
  refine storeAgg (xt := 28) (n := 3) (by kernel_rfl) (hwb.blk.below hwc.below (by omega)) rfl (by decide) (by simp; exact ⟨rfl, rfl, rfl⟩) ?_
  intro wd hwd
  have zd := hwd.size
  push_cast -dsimp
  refine storeAgg (xt := 31) (n := 2) (by kernel_rfl) (Blk.kept hwc.blk hwd.kept (by omega)) rfl (by decide) (by simp; exact ⟨rfl, rfl⟩) ?_
  intro we hwe
  have ze := hwe.size
  have hgp : ∃ p3 p4, p3 = wa.heap.size ∧ p4 = wb.heap.size := ⟨_, _, rfl, rfl⟩
  obtain ⟨p3, p4, e3, e4⟩ := hgp
  have Fe : Blk we p3 28 [.slice a1 n1 c1, .slice a2 n2 c2, .bool (fileOf s).els] := by rw [e3]; exact Blk.kept hwd.blk hwe.kept (by omega)
  have Ge : Blk we p4 31 [.int .i64 (faultOf s).1, .int .i64 (faultOf s).2] := by rw [e4]; exact hwe.blk
  have bae : Below wa.heap.size wa we := ((hwb.below.trans (hwc.below.mono (by omega))).trans (hwd.kept.below (B := wa.heap.size) (by omega) (fun i h => by omega))).trans (hwe.kept.below (B := wa.heap.size) (by omega) (fun i h => by omega))
  have bwe : Below w.heap.size w we := ba.trans (bae.mono ba.size)
  have hge := hg.below bwe
  have hFe := hF.below bae
  rw [← e3, ← e4]
  push_cast -dsimp
  refine wpL_seqV ?_
  push_cast -dsimp
  refine callK_of (ruleParse_c s (by omega) we hge.d hge.e (by have := bwe.size; omega)) ?_
  rintro r wf ⟨hR2, bf⟩
  obtain ⟨v2, ev, rfl, hv2, hev⟩ := ruleRead hR2
  obtain ⟨cv2, rv2, ⟨a3, n3, c3, rfl⟩, ⟨a4, n4, c4, rfl⟩, rfl, hF2⟩ := hv2
  have zf := bf.size
  push_cast -dsimp
  refine allocK (z := [.slice none 0 0, .slice none 0 0, .bool false]) (by kernel_rfl) ?_
  intro wg hwg
  have zg := hwg.size
  push_cast -dsimp
  refine storeAgg (xt := 28) (n := 3) (by kernel_rfl) hwg.blk rfl (by decide) (by simp; exact ⟨rfl, rfl, rfl⟩) ?_
  intro wh hwh
  have zh := hwh.size
  have hgp : ∃ p5, p5 = wf.heap.size := ⟨_, rfl⟩
  obtain ⟨p5, e5⟩ := hgp
  have bfh : Below wf.heap.size wf wh := hwg.below.trans (hwh.kept.below (B := wf.heap.size) (by omega) (fun i h => by omega))
  have beh := bf.trans (bfh.mono bf.size)
  have Hh : Blk wh p5 28 [.slice a3 n3 c3, .slice a4 n4 c4, .bool (fileOf s).els] := by rw [e5]; exact hwh.blk
  have Fh := Fe.below beh Fe.lt
  have Gh := Ge.below beh Ge.lt
  have hevh := hev.below bfh
  have bwh := bwe.trans (beh.mono bwe.size)
  have hFh := hFe.below beh
  have hF2h := hF2.below bfh
  have dG : cellsAt wh ⟨p4, 0, none⟩ 0 2 = some [.int .i64 (faultOf s).1, .int .i64 (faultOf s).2] := Gh.cellsAt
  rw [← e5]
  push_cast -dsimp
  refine wpL_seqV ?_
  push_cast -dsimp [dG]
  refine callK_of (is_c ev _ _ _ _ wh (keptErr bwh hE) hevh) ?_
  rintro _ wi ⟨rfl, bi⟩
  have dH : cellsAt wi ⟨p5, 0, none⟩ 0 3 = some [.slice a3 n3 c3, .slice a4 n4 c4, .bool (fileOf s).els] := (Hh.below bi Hh.lt).cellsAt
  have dF : cellsAt wi ⟨p3, 0, none⟩ 0 3 = some [.slice a1 n1 c1, .slice a2 n2 c2, .bool (fileOf s).els] := (Fh.below bi Fh.lt).cellsAt
  have bwi := bwh.trans (bi.mono bwh.size)
  have hbe : decide ((faultOf s).1 = (faultOf s).1 ∧ (faultOf s).2 = (faultOf s).2) = true := by simp
  rw [hbe]
  push_cast -dsimp [dH, dF]
  refine callK_of (sameFile_c (fileOf s) hfo.1 hfo.2.2.2 hfo.2.1 hfo.2.2.1 _ _ _ _ wi (hF2h.below bi) (hFh.below bi)) ?_
  rintro _ wj ⟨rfl, bj⟩
  have bhj := bi.trans (bj.mono bi.size)
  have bwj := bwh.trans (bhj.mono bwh.size)
  have hFj := hFh.below bhj
  have hF2j := hF2h.below bhj
  have Hj := Hh.below bhj Hh.lt
  have Fj := Fh.below bhj Fh.lt
  have Gj := Gh.below bhj Gh.lt
  obtain ⟨rs, q1, l1, S2, A2⟩ := hFj.rules
  obtain ⟨rs', q2, l2, S2', A2'⟩ := hF2j.rules
  have hgf : ∃ f, f = fileOf s := ⟨_, rfl⟩
  obtain ⟨f, hgf⟩ := hgf
  rw [← hgf] at hfo hfh hFj hF2j Hj Fj q1 l1 A2 q2 l2 A2'
  push_cast -dsimp
  refine wpL_seqW (wpL_seqV ?_)
  push_cast -dsimp
  refine wpL_blockW ?_
  refine wpL_cutB [2, 7, 31, 32, 33, 34, 35, 36, 37, 38, 39, 40, 41, 42, 43, 44, 45, 46, 47, 48, 49, 50, 51, 52, 53, 54, 55, 56, 57, 58, 59, 60, 61, 62, 63, 64, 65, 66, 67, 68, 69] (fun z wx => Below wj.heap.size wj wx) ?_ ?_
  · refine wpL_loopW [2, 7, 31, 32, 33, 34, 35, 36, 37, 38, 39, 40, 41, 42, 43, 44, 45, 46, 47, 48, 49, 50, 51, 52, 53, 54, 55, 56, 57, 58, 59, 60, 61, 62, 63, 64, 65, 66, 67, 68, 69] (fun z wx => ∃ i : Nat, z 7 = .int .i64 i ∧ i ≤ f.rules.length ∧ Below wj.heap.size wj wx) (fun z _ => f.rules.length - (intOf (z 7)).toNat) ?_ ?_
    · exact ⟨0, rfl, Nat.zero_le _, Below.refl _ _⟩
    rintro z wx ⟨i, h7, hi, hb⟩
    have Hx := Hj.below hb Hj.lt
    have Fx := Fj.below hb Fj.lt
    have x1 : wx.cell? ⟨p5, 1, none⟩ = some (.slice a4 n4 c4) := Hx.cell rfl
    refine wpL_seqV ?_
    push_cast -dsimp [h7, x1]
    refine ⟨fun hlt => ?_, fun hge => hb⟩
    have hy : f.rules[i]? = some f.rules[i] := List.getElem?_eq_getElem (by omega)
    have hgy : ∃ y, y = f.rules[i] := ⟨_, rfl⟩
    obtain ⟨y, hgy⟩ := hgy
    rw [← hgy] at hy
    have hym := List.mem_of_getElem? hy
    have hKo := hfo.1.2 y hym
    have hKn := hfo.2.2.2 y hym
    have hKh := hfh.1 y hym
    have hat := A2.at hy
    obtain ⟨⟨m1, r1, u1, v1⟩, hx, hn1, hp1, hV1, hU1⟩ := hat
    have hat' := A2'.at hy
    obtain ⟨⟨m2, r2, u2, v2⟩, hx', hn2, hp2, hV2, hU2⟩ := hat'
    dsimp only at hn1 hp1 hV1 hU1 hn2 hp2 hV2 hU2
    have hgt := (S2.below hb).get hx
    obtain ⟨g, o, hsa, _, hcell⟩ := hgt
    have hgt' := (S2'.below hb).get hx'
    obtain ⟨g', o', hsa', _, hcell'⟩ := hgt'
    have bwx : Below w.heap.size w wx := bwj.trans (hb.mono bwj.size)
    have bxd := below_drewR wx
    have e51 : ∀ w'', Below wx.heap.size wx w'' → w''.cell? ⟨p5, 1, none⟩ = some (.slice a4 n4 c4) := fun w'' h => (Hx.below h Hx.lt).cell rfl
    have e31 : ∀ w'', Below wx.heap.size wx w'' → w''.cell? ⟨p3, 1, none⟩ = some (.slice a2 n2 c2) := fun w'' h => (Fx.below h Fx.lt).cell rfl
    have k2 : wx.cell? ⟨g, o + i * 4 + 2, none⟩ = some (ptrP u1) := hcell 2 _ rfl
    have k3 : wx.cell? ⟨g, o + i * 4 + 3, none⟩ = some (ptrP v1) := hcell 3 _ rfl
    have k2' : wx.cell? ⟨g', o' + i * 4 + 2, none⟩ = some (ptrP u2) := hcell' 2 _ rfl
    have k3' : wx.cell? ⟨g', o' + i * 4 + 3, none⟩ = some (ptrP v2) := hcell' 3 _ rfl
    have bk : ∀ {ad : Addr} {v : Value} w'', Below wx.heap.size wx w'' → wx.cell? ad = some v → w''.cell? ad = some v := fun w'' h e => (h.cell (World.block_lt_of_cell? _ _ e)).trans e
    have gD : ∀ w'', Below wx.heap.size wx w'' → Gr w'' := fun w'' h => hg.below (bwx.trans (h.mono bwx.size))
    have pD : ∀ w'', Below wx.heap.size wx w'' → Pw w'' := fun w'' h => hp.below (bwx.trans (h.mono bwx.size))
    refine wpL_seqW (wpL_blockW (wpL_seqV ?_))
    push_cast -dsimp
    refine wpL_draw (fun w'' => Below wx.heap.size wx w'') mixed (by kernel_rfl) bxd ?_
    push_cast -dsimp [h7, e51 _ bxd, indexAddrK_at hsa', bk _ bxd k2']
    refine ⟨fun w'' h => by rw [e51 _ h]; exact rfl, ⟨by omega, by omega⟩, fun w'' h => by rw [bk w'' h k2']; exact rfl, ?_⟩
    refine callK_of (ruleText_c y.before hKo.1 hKn.1 _ _ wx.drew ((hV2.below hb).below bxd) (gD _ bxd).d) ?_
    rintro _ wk ⟨rfl, bk1⟩
    have bxk := bxd.trans bk1
    refine ⟨bxk, ?_⟩
    push_cast -dsimp [h7, e31 _ bxk, indexAddrK_at hsa, bk _ bxk k2]
    refine ⟨fun w'' h => by rw [e31 _ h]; exact rfl, ⟨by omega, by omega⟩, fun w'' h => by rw [bk w'' h k2]; exact rfl, ?_⟩
    refine callK_of (rtext_c y.before hKo.1 hKh.1 hKn.1 _ _ wk ((hV1.below hb).below bxk) (gD _ bxk).d (pD _ bxk)) ?_
    rintro _ wl ⟨rfl, bl1⟩
    have bxl := bxk.trans (bl1.mono bxk.size)
    refine ⟨bxl, ?_⟩
    push_cast -dsimp [h7, e51 _ bxl, indexAddrK_at hsa', bk _ bxl k3', beq_self_eq_true, Bool.not_true]
    refine ⟨fun w'' h => by rw [e51 _ h]; exact rfl, ⟨by omega, by omega⟩, fun w'' h => by rw [bk w'' h k3']; exact rfl, ?_⟩
    refine callK_of (ruleText_c y.after hKo.2 hKn.2 _ _ wl ((hU2.below hb).below bxl) (gD _ bxl).d) ?_
    rintro _ wm ⟨rfl, bm1⟩
    have bxm := bxl.trans (bm1.mono bxl.size)
    refine ⟨bxm, ?_⟩
    push_cast -dsimp [h7, e31 _ bxm, indexAddrK_at hsa, bk _ bxm k3]
    refine ⟨fun w'' h => by rw [e31 _ h]; exact rfl, ⟨by omega, by omega⟩, fun w'' h => by rw [bk w'' h k3]; exact rfl, ?_⟩
    refine callK_of (rtext_c y.after hKo.2 hKh.2 hKn.2 _ _ wm ((hU1.below hb).below bxm) (gD _ bxm).d (pD _ bxm)) ?_
    rintro _ wn ⟨rfl, bn1⟩
    have bxn := bxm.trans (bn1.mono bxm.size)
    refine ⟨bxn, ?_⟩
    push_cast -dsimp [beq_self_eq_true, Bool.not_true]
    refine wpL_of ?_
    push_cast -dsimp
    refine wpL_of ?_
    push_cast -dsimp [h7]
    exact ⟨⟨by omega, by omega⟩, ⟨i + 1, rfl, by omega, hb.trans (bxn.mono hb.size)⟩, by simp only [intOf, h7]; omega⟩
  · rintro z wx hb
    have bwx : Below w.heap.size w wx := bwj.trans (hb.mono bwj.size)
    have bxd := below_drewR wx
    have Hx := Hj.below hb Hj.lt
    have Fx := Fj.below hb Fj.lt
    have Gx := Gj.below hb Gj.lt
    have gD : ∀ w'', Below wx.heap.size wx w'' → Gr w'' := fun w'' h => hg.below (bwx.trans (h.mono bwx.size))
    have e4 : ∀ w'', Below wx.heap.size wx w'' → cellsAt w'' ⟨p4, 0, none⟩ 0 2 = some [.int .i64 (faultOf s).1, .int .i64 (faultOf s).2] := fun w'' h => (Gx.below h Gx.lt).cellsAt
    have e5 : ∀ w'', Below wx.heap.size wx w'' → cellsAt w'' ⟨p5, 0, none⟩ 0 3 = some [.slice a3 n3 c3, .slice a4 n4 c4, .bool f.els] := fun w'' h => (Hx.below h Hx.lt).cellsAt
    have e3 : ∀ w'', Below wx.heap.size wx w'' → cellsAt w'' ⟨p3, 0, none⟩ 0 3 = some [.slice a1 n1 c1, .slice a2 n2 c2, .bool f.els] := fun w'' h => (Fx.below h Fx.lt).cellsAt
    generalize (faultOf s).1 = fa at e4
    generalize (faultOf s).2 = fb at e4
    push_cast -dsimp
    refine wpL_seqV ?_
    push_cast -dsimp
    refine wpL_draw (fun w'' => Below wx.heap.size wx w'') mixed (by kernel_rfl) bxd ?_
    push_cast -dsimp [e4 _ bxd, fault_agg (gD _ bxd), e5 _ bxd]
    refine ⟨fun w'' h => by rw [e4 _ h]; exact rfl, fun w'' h => by rw [fault_agg (gD _ h)]; exact rfl, fun _ => ?_, fun _ => ?_⟩
    · refine ⟨fun w'' h => by rw [e5 _ h]; exact rfl, ?_⟩
      refine callK_of (print_walk f hfo.1 (by omega) (by omega) (by omega) _ _ wx.drew ((hF2j.below hb).below bxd) (gD _ bxd).d) ?_
      rintro _ wk ⟨rfl, bk1⟩
      have bxk := bxd.trans bk1
      refine ⟨bxk, ?_⟩
      push_cast -dsimp [e3 _ bxk]
      refine ⟨fun w'' h => by rw [e3 _ h]; exact rfl, ?_⟩
      refine callK_of (rprint_c f hfo.1 hfh.1 (by omega) (by omega) (by omega) _ _ wk ((hFj.below hb).below bxk) (gD _ bxk).d (hp.below (bwx.trans (bxk.mono bwx.size)))) ?_
      rintro _ wl ⟨rfl, bl1⟩
      have bxl := bxk.trans (bl1.mono bxk.size)
      refine ⟨bxl, ?_⟩
      push_cast -dsimp [beq_self_eq_true]
      refine wpL_of ?_
      push_cast -dsimp
      exact bwx.trans (bxl.mono bwx.size)
    · refine wpL_of ?_
      push_cast -dsimp
      exact bwx.trans (bxd.mono bwx.size)
end Go.Proofs.YtphebgkbkdjjoaaGreatDoor
end
