import Derived.Test.YtplbgmoeannobaaGreatDoorRfld
import Derived.Test.YtplbgmoeannobaaGreatDoorRtxt
import Derived.Test.YtplbgmoeannobaaGreatDoorPin2
/- The reference's ParseSet. -/
namespace Go.Proofs.YtplbgmoeannobaaGreatDoor
open Go.Vc Go.Proofs Go.RowKit Cae
set_option maxRecDepth 100000
set_option linter.unusedSimpArgs false
set_option linter.unusedVariables false
attribute [local irreducible] wpL callK valK unitK runK Fun Sl Own vc vcOps opK pureK
set_option maxHeartbeats 8000000
/-- What it answers: the set that is written so, or that there is none. -/
def ParseRR (B : Nat) (s : List UInt8) (r : Value) (w : World) : Prop :=
  (∃ v l, r = .tuple #[v, .int .i64 0] ∧ Own B 42 2 encR w v l ∧ PrintOf s l) ∨ (r = .tuple #[.slice none 0 0, .int .i64 3] ∧ ∀ l, ¬ PrintOf s l)
theorem parseSetR_c (s : List UInt8) (hs : s.length ≤ 1000000) (w : World) (hd : Db w) (he : SErrs w) (ht : Tv w) : Fun Tryz.prog 19 [str s] w fun r w' => ParseRR w.heap.size s r w' ∧ Below w.heap.size w w' := by
  refine fun_of_vc Tryz.func19 rfl (by kernel_rfl) [2, 3] rfl ?_
  push_cast -dsimp (maxSteps := 4000000) [Tryz.ntmps19]
  refine callK_of (trim_c s (by omega) w) ?_
  rintro _ w1 ⟨rfl, hb1⟩
  have sz1 := hb1.size
  have hlt := trimS_len s [91, 93]
  push_cast -dsimp
  refine callK_of (fields_c (Lib.trimS s [91, 93]) (by omega) w1 (ht.below hb1)) ?_
  rintro fv w2 ⟨ho2, hb2⟩
  have sz2 := hb2.size
  have hbw2 := hb1.trans (hb2.mono sz1)
  have hF : ∃ F, Lib.fieldsD (Lib.trimS s [91, 93]) = F := ⟨_, rfl⟩
  obtain ⟨F, hF⟩ := hF
  have hFn := fieldsD_count (Lib.trimS s [91, 93])
  have hFs : ∀ x ∈ F, x.length ≤ s.length := fun x hx => by rw [← hF] at hx; have := fieldsD_size hx; omega
  have hPF : ∀ l, PrintOf s l → F = l.map rgP := fun l hl => by rw [← hF, ← hl.2, trim_body hl.1, fields_body hl.1]
  rw [hF] at ho2 hFn
  have hsh := ho2.slice
  obtain ⟨fa, fc, rfl⟩ := hsh
  have hsl := ho2.sl
  push_cast -dsimp
  refine wpL_loop [2, 3, 4, 6, 7, 8, 9, 10, 11, 16, 17, 18, 19, 20, 21, 22, 23, 24, 25, 26, 27, 28, 29, 30, 31, 32, 33, 34, 35, 36, 37, 38, 39, 40, 41, 42, 43, 44, 45, 46, 47, 48, 49, 50, 51] (fun z wx => ∃ (i : Nat) (ov : Value) (out : List Rg), z 16 = .int .i64 i ∧ z 4 = ov ∧ i ≤ F.length ∧ out.length = i ∧ (∀ l, PrintOf s l → out = l.take i) ∧ Own w2.heap.size 42 2 encR wx ov out ∧ Below w2.heap.size w2 wx) (fun z _ => F.length - (intOf (z 16)).toNat) ?_ ?_
  · exact ⟨0, _, [], rfl, rfl, Nat.zero_le _, rfl, fun l _ => by simp, Own.nil (enc := encR) _ _ (fun _ => rfl) _, Below.refl _ _⟩
  · intro z wx hI
    obtain ⟨i, ov, out, h16, h4, hi, hol, hout, hox, hbx⟩ := hI
    have szx := hbx.size
    have hbwx := hbw2.trans (hbx.mono (by omega))
    push_cast -dsimp [h16, h4]
    refine ⟨fun hlt2 => ?_, fun hge => ?_⟩
    · have hg := lt_get (l := F) (i := i) (by omega)
      obtain ⟨t, htt, htm, _, hFt⟩ := hg
      have hts := hFs t htm
      have hg := (hsl.below hbx).get htt
      obtain ⟨b, o, rfl, _, hcell⟩ := hg
      have c0 : wx.cell? ⟨b, o + i, none⟩ = some (str t) := by simpa [encS] using hcell 0 _ rfl
      have et : t ++ [45] ++ t = t ++ 45 :: t := by simp
      have hpc := pieces_two t
      obtain ⟨a, b', r', hpc, hal, hbl⟩ := hpc
      have hkey : ∀ l, PrintOf s l → ∃ q, l[i]? = some q ∧ (0 ≤ q.1 ∧ q.1 ≤ q.2 ∧ q.2 ≤ 1114111) ∧ a = hexP q.1.toNat ∧ b' = hexP q.2.toNat := fun l hl => by
        have h1 := hPF l hl
        rw [h1, List.getElem?_map] at htt
        obtain ⟨q, hq, hqt⟩ := Option.map_eq_some_iff.1 htt
        have hr := mem_right (by omega) hl.1 q (List.mem_of_getElem? hq)
        have hm := pieces_rg (r := q) (by omega) (by omega) (by omega) hr.2.1
        obtain ⟨m, hm⟩ := hm
        rw [hqt, hpc] at hm
        simp only [List.cons.injEq] at hm
        exact ⟨q, hq, hr, hm.1, hm.2.1⟩
      push_cast -dsimp [c0, et]
      refine ⟨⟨by omega, by omega⟩, by omega, by simp only [List.length_append, List.length_cons, List.length_nil]; omega, ?_⟩
      refine callK_of (splitN_c t (by omega) wx (ht.below hbwx)) ?_
      rintro wv w3 ⟨hs3, hb3⟩
      have sz3 := hb3.size
      have hbw3 := hbwx.trans (hb3.mono hbwx.size)
      rw [hpc] at hs3
      have hsh := hs3.shape
      obtain ⟨pa, pc, rfl, _⟩ := hsh
      have hg := hs3.get (i := 0) rfl
      obtain ⟨pb, po, rfl, _, hc0⟩ := hg
      have hg := hs3.get (i := 1) rfl
      obtain ⟨_, _, hee, _, hc1⟩ := hg
      cases hee
      have ca : w3.cell? ⟨pb, po, none⟩ = some (str a) := by simpa [encS] using hc0 0 _ rfl
      have cb : w3.cell? ⟨pb, po + 1, none⟩ = some (str b') := by simpa [encS] using hc1 0 _ rfl
      have hpl : (a :: b' :: r').length = r'.length + 2 := rfl
      rw [hpl]
      push_cast -dsimp [ca]
      refine ⟨by omega, ?_⟩
      refine callK_of (parseInt_c 40 (.inr rfl) a (by omega) w3 (he.below hbw3)) ?_
      rintro _ w4 ⟨⟨v1, e1, rfl, he1, hx1⟩, hb4⟩
      have sz4 := hb4.size
      have hbw4 := hbw3.trans (hb4.mono hbw3.size)
      have cb4 : w4.cell? ⟨pb, po + 1, none⟩ = some (str b') := (hb4.cell (World.block_lt_of_cell? _ _ cb)).trans cb
      have et1 : Int.toNat 1 = 1 := rfl
      push_cast -dsimp [cb4, et1]
      refine ⟨by omega, ?_⟩
      refine callK_of (parseInt_c 40 (.inr rfl) b' (by omega) w4 (he.below hbw4)) ?_
      rintro _ w5 ⟨⟨v2, e2, rfl, he2, hx2⟩, hb5⟩
      have sz5 := hb5.size
      have hbw5 := hbw4.trans (hb5.mono hbw4.size)
      have bad1 : (∃ ty x, e1 = .iface ty x) → ∀ l, ¬ PrintOf s l := fun h l hl => by
        obtain ⟨ty, x, rfl⟩ := h
        obtain ⟨q, _, hr, ha, _⟩ := hkey l hl
        have := (hx1 q.1.toNat (by omega) ha).2
        cases this
      have bad2 : (∃ ty x, e2 = .iface ty x) → ∀ l, ¬ PrintOf s l := fun h l hl => by
        obtain ⟨ty, x, rfl⟩ := h
        obtain ⟨q, _, hr, _, hb⟩ := hkey l hl
        have := (hx2 q.2.toNat (by omega) hb).2
        cases this
      rcases he1 with rfl | he1
      · rcases he2 with rfl | he2
        · have hb35 : Below w2.heap.size wx w5 := (hb3.mono szx).trans ((hb4.mono (by omega)).trans (hb5.mono (by omega)))
          have ho5 := hox.below (hb3.trans ((hb4.mono (by omega)).trans (hb5.mono (by omega))))
          have hsh := ho5.slice
          obtain ⟨oa, oc, rfl⟩ := hsh
          push_cast -dsimp
          refine rowK elI_24 rfl rfl (by omega) ?_
          intro w7 hw7
          have sz7 := hw7.size
          have ho7 := ho5.new hw7
          push_cast -dsimp
          refine appendK2 (base := w2.heap.size) [(v1, v2)] (enc := encR) elI_24 ho7 (by rfl) (fun j u hu => by simpa [encR] using hw7.cell hu) encR_one (by simp only [List.length_cons, List.length_nil]; omega) (by omega) ?_
          intro v8 w8 ho8 hg8 _
          have k8 := Kept.grown hg8 (fun _ h => h)
          have hbx8 : Below w2.heap.size w2 w8 := (hbx.trans (hb35.trans (hw7.below.mono (by omega)))).trans (k8.below (by omega) (fun j h => (ho7.block j h).1))
          push_cast -dsimp
          refine ⟨⟨by omega, by omega⟩, ⟨i + 1, _, _, rfl, rfl, by omega, by simp; exact hol, fun l hl => ?_, ho8, hbx8⟩, by rw [h16]; simp only [intOf]; omega⟩
          obtain ⟨q, hq, hr, ha, hb⟩ := hkey l hl
          have h1 := (hx1 q.1.toNat (by omega) ha).1
          have h2 := (hx2 q.2.toNat (by omega) hb).1
          have eq : (v1, v2) = q := by
            rw [h1, h2]
            obtain ⟨x, y⟩ := q
            simp only at hr ⊢
            rw [Int.toNat_of_nonneg (by omega), Int.toNat_of_nonneg (by omega)]
          rw [hout l hl, List.take_add_one, hq, eq]
          rfl
        · obtain ⟨ty, x, rfl⟩ := he2
          push_cast -dsimp
          exact ⟨.inr ⟨rfl, bad2 ⟨_, _, rfl⟩⟩, hbw5⟩
      · obtain ⟨ty, x, rfl⟩ := he1
        push_cast -dsimp
        exact ⟨.inr ⟨rfl, bad1 ⟨_, _, rfl⟩⟩, hbw5⟩
    · have hall : ∀ l, PrintOf s l → out = l := fun l hl => by
        have h1 := congrArg List.length (hPF l hl)
        rw [List.length_map] at h1
        rw [hout l hl, List.take_of_length_le (by omega)]
      have hsh := hox.slice
      obtain ⟨oa, oc, rfl⟩ := hsh
      refine callK_of (rightSetR_c out (by omega) _ _ wx hox.sl) ?_
      rintro _ w3 ⟨rfl, hb3⟩
      have sz3 := hb3.size
      have hbw3 := hbwx.trans (hb3.mono hbwx.size)
      have ho3 := hox.below hb3
      cases hr : setRight (-2) out with
      | false =>
        push_cast -dsimp
        exact ⟨.inr ⟨rfl, fun l hl => by have := hall l hl; subst this; rw [hl.1] at hr; cases hr⟩, hbw3⟩
      | true =>
        push_cast -dsimp
        refine callK_of (setTextR_c out (by omega) hr _ _ w3 ho3.sl (hd.below hbw3 hd.lt)) ?_
        rintro _ w4 ⟨rfl, hb4⟩
        have hbw4 := hbw3.trans (hb4.mono hbw3.size)
        push_cast -dsimp
        refine ⟨fun hne => ?_, fun heq => ?_⟩
        · exact ⟨.inr ⟨rfl, fun l hl => by have := hall l hl; subst this; exact hne hl.2⟩, hbw4⟩
        · exact ⟨.inl ⟨_, out, rfl, (ho3.below hb4).mono (by omega), hr, Classical.not_not.1 heq⟩, hbw4⟩
end Go.Proofs.YtplbgmoeannobaaGreatDoor
