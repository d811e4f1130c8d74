import Derived.Test.YtplbgmoeannobaaGreatDoorHex
import Derived.Test.YtplbgmoeannobaaGreatDoorJoin
namespace Cae
/-- A range, written. -/
def rgP (r : Rg) : List UInt8 := hexP r.1.toNat ++ (if r.1 < r.2 then 45 :: hexP r.2.toNat else [])
/-- A set, written. -/
def printP (s : List Rg) : List UInt8 := 91 :: (Go.Lib.join (s.map rgP) [32] ++ [93])
/-- Ranges that can be written. -/
def Wr (s : List Rg) : Prop := ∀ r ∈ s, 0 ≤ r.1 ∧ r.1 < 4294967296 ∧ r.2 < 4294967296
theorem rgP_len (r : Rg) : (rgP r).length ≤ 19 := by
  unfold rgP
  have h1 := hexP_len r.1.toNat
  have h2 := hexP_len r.2.toNat
  split <;> simp <;> omega
theorem joinR_len (s : List Rg) : (Go.Lib.join (s.map rgP) [32]).length ≤ 20 * s.length := by
  cases s with
  | nil => simp [Go.Lib.join_nil]
  | cons r s =>
    rw [List.map_cons, Go.Lib.join_cons, List.length_append, Go.Lib.joinTail_length]
    have h1 := rgP_len r
    have h2 : Go.Lib.lens (s.map rgP) ≤ 19 * s.length := by
      induction s with
      | nil => simp [Go.Lib.lens]
      | cons q s ih =>
        have := rgP_len q
        simp only [Go.Lib.lens, List.map_cons, List.sum_cons, List.length_cons] at ih ⊢
        omega
    simp only [List.length_cons, List.length_nil, List.length_map]
    omega
theorem wr_right : ∀ {s : List Rg} {a : Int}, -2 ≤ a → setRight a s = true → Wr s
  | [], _, _, _ => fun r hr => by cases hr
  | q :: s, a, ha, h => by
    rw [setRight_con] at h
    intro r hr
    rcases List.mem_cons.1 hr with rfl | hr
    · omega
    · exact wr_right (by omega) h.2 r hr
end Cae
namespace Go.Proofs.YtplbgmoeannobaaGreatDoor
open Go.Vc Go.Proofs Go.RowKit Cae
set_option maxRecDepth 100000
set_option linter.unusedSimpArgs false
set_option linter.unusedVariables false
attribute [local irreducible] wpL callK valK unitK runK Fun Sl Own vc vcOps opK pureK
set_option maxHeartbeats 4000000

theorem print_c (s : List Rg) (hs : s.length < 10000000) (hw : Wr s) (X : Nat → Prop) (v : Value) (w : World) (hv : Sl X 2 (En encR) w v s) (h : Db w) :
    Fun Tryz.prog 22 [v] w fun r w' => r = str (printP s) ∧ Below w.heap.size w w' := by
  obtain ⟨a, c, rfl, hc⟩ := hv.shape
  refine fun_of_vc Tryz.func22 rfl (by kernel_rfl) [2] rfl ?_
  push_cast -dsimp (maxSteps := 4000000) [Tryz.ntmps22]
  refine wpL_loop [3, 5, 6, 9, 10, 11, 12, 13, 14, 15, 16, 17, 18, 19, 20, 21, 22, 23, 24, 25, 26, 27, 28, 29, 30, 31] (fun z wx => ∃ (i : Nat) (ov : Value), z 9 = .int .i64 i ∧ z 3 = ov ∧ i ≤ s.length ∧ Own w.heap.size 9 1 encS wx ov ((s.take i).map rgP) ∧ Below w.heap.size w wx) (fun z _ => s.length - (intOf (z 9)).toNat) ?_ ?_
  · exact ⟨0, _, rfl, rfl, Nat.zero_le _, Own.nil (enc := encS) _ _ (fun _ => rfl) _, Below.refl _ _⟩
  · intro z wx hI
    obtain ⟨i, ov, h9, h3, hi, hox, hbx⟩ := hI
    have szx := hbx.size
    push_cast -dsimp [h9, h3]
    refine ⟨fun hlt => ?_, fun hge => ?_⟩
    · have hg := lt_get (l := s) (i := i) (by omega)
      obtain ⟨x, hx, hxm, _, ht⟩ := hg
      have hsx := hv.below hbx
      have hg := hsx.get hx
      obtain ⟨b, o, rfl, hnb, hcell⟩ := hg
      have cx : cellsAt wx ⟨b, o + i * 2, none⟩ 0 2 = some [.int .i64 x.1, .int .i64 x.2] := cellsAt_of (encR x) 0 (fun j u hu => by simpa using hcell j u hu)
      have hxw := hw x hxm
      obtain ⟨x1, x2, x3⟩ := hxw
      have est : (s.take (i + 1)).map rgP = (s.take i).map rgP ++ [rgP x] := by
        rw [ht, List.map_append]; rfl
      have hgn : ∃ n : Nat, x.1 = n := ⟨x.1.toNat, by omega⟩
      obtain ⟨n, hn⟩ := hgn
      rw [hn] at cx
      push_cast -dsimp [cx]
      refine ⟨⟨by omega, by omega⟩, ?_⟩
      refine allocK (z := [.int .i64 0, .int .i64 0]) (by kernel_rfl) ?_
      intro w3 hw3
      have sz3 := hw3.size
      push_cast -dsimp
      refine storeAgg (n := 2) (by kernel_rfl) hw3.blk rfl (by simp) (by simp [Value.oneCell']) ?_
      intro w4 hw4
      have sz4 := hw4.size
      have c0 : w4.cell? ⟨wx.heap.size, 0, none⟩ = some (.int .i64 (n : Int)) := hw4.blk.cell rfl
      have c1 : w4.cell? ⟨wx.heap.size, 1, none⟩ = some (.int .i64 x.2) := hw4.blk.cell rfl
      push_cast -dsimp [c0, c1]
      have k4 : Kept (fun j => j = wx.heap.size) wx w4 := (Kept.new hw3).trans hw4.kept (fun _ _ h => h)
      have ho4 := hox.keptX k4 (fun g hg h => by have := hox.block g hg; omega)
      have hb4 : Below w.heap.size w w4 := hbx.trans (k4.below szx (fun _ h => by omega))
      have hsh := ho4.slice
      obtain ⟨oa, oc, rfl⟩ := hsh
      refine callK_of (hex_c n (by omega) w4 (h.below hb4 h.lt)) ?_
      rintro _ w5 ⟨rfl, hb5⟩
      have sz5 := hb5.size
      have ho5 := ho4.below hb5
      have hB5 := hb4.trans (hb5.mono (show w.heap.size ≤ w4.heap.size by omega))
      have c5 : w5.cell? ⟨wx.heap.size, 0, none⟩ = some (.int .i64 (n : Int)) := (hb5.cell (by show wx.heap.size < w4.heap.size; omega)).trans c0
      have c5' : w5.cell? ⟨wx.heap.size, 1, none⟩ = some (.int .i64 x.2) := (hb5.cell (by show wx.heap.size < w4.heap.size; omega)).trans c1
      push_cast -dsimp [c5, c5']
      refine ⟨fun hgt => ?_, fun hle => ?_⟩
      · have hgm : ∃ m : Nat, x.2 = m := ⟨x.2.toNat, by omega⟩
        obtain ⟨m, hm⟩ := hgm
        have hrg : rgP x = hexP n ++ 45 :: hexP m := by unfold rgP; rw [if_pos (by omega), hn, hm]; rfl
        rw [hm] at c5'
        rw [hm]
        refine callK_of (hex_c m (by omega) w5 (h.below hB5 h.lt)) ?_
        rintro _ w6 ⟨rfl, hb6⟩
        have sz6 := hb6.size
        have ho6 := ho5.below hb6
        have hB6 := hB5.trans (hb6.mono (show w.heap.size ≤ w5.heap.size by omega))
        have hl1 := hexP_len n
        have hl2 := hexP_len m
        push_cast -dsimp
        refine ⟨by omega, by simp only [List.length_append, List.length_cons, List.length_nil]; omega, ?_⟩
        refine rowK elI_54 rfl rfl (by omega) ?_
        intro w7 hw7
        have sz7 : w7.heap.size = w6.heap.size + 1 := hw7.size
        have ho7 := ho6.new hw7
        push_cast -dsimp
        refine appendK2 (base := w.heap.size) [rgP x] (enc := encS) elI_54 ho7 (by rfl) (fun j u hu => by rw [hrg] at hu; rw [Nat.zero_add]; exact hw7.cell hu) (by simp [encS, str, Value.oneCell']) (by simp only [List.length_cons, List.length_nil, List.length_map, List.length_take]; omega) (by omega) ?_
        intro v8 w8 ho8 hg8 hn8
        have hb8 : Below w.heap.size w w8 := (hB6.trans (hw7.below.mono (by omega))).trans ((Kept.grown (X := fun j => w.heap.size ≤ j) hg8 (fun k hk => (ho7.block k hk).1)).below (by omega) (fun _ h => h))
        rw [← est] at ho8
        push_cast -dsimp
        exact ⟨⟨by omega, by omega⟩, ⟨i + 1, _, rfl, rfl, by omega, ho8, hb8⟩, by rw [h9]; simp only [intOf]; omega⟩
      · have hrg : rgP x = hexP n := by unfold rgP; rw [if_neg (by omega), hn]; exact List.append_nil _
        refine rowK elI_54 rfl rfl (by omega) ?_
        intro w7 hw7
        have sz7 : w7.heap.size = w5.heap.size + 1 := hw7.size
        have ho7 := ho5.new hw7
        push_cast -dsimp
        refine appendK2 (base := w.heap.size) [rgP x] (enc := encS) elI_54 ho7 (by rfl) (fun j u hu => by rw [hrg] at hu; rw [Nat.zero_add]; exact hw7.cell hu) (by simp [encS, str, Value.oneCell']) (by simp only [List.length_cons, List.length_nil, List.length_map, List.length_take]; omega) (by omega) ?_
        intro v8 w8 ho8 hg8 hn8
        have hb8 : Below w.heap.size w w8 := (hB5.trans (hw7.below.mono (by omega))).trans ((Kept.grown (X := fun j => w.heap.size ≤ j) hg8 (fun k hk => (ho7.block k hk).1)).below (by omega) (fun _ h => h))
        rw [← est] at ho8
        push_cast -dsimp
        exact ⟨⟨by omega, by omega⟩, ⟨i + 1, _, rfl, rfl, by omega, ho8, hb8⟩, by rw [h9]; simp only [intOf]; omega⟩
    · have hin : i = s.length := by omega
      subst hin
      rw [List.take_length] at hox
      have hjl := joinR_len s
      refine callK_of (join_c (s.map rgP) [32] (by rw [List.length_map]; omega) (by omega) _ _ wx hox.sl) ?_
      rintro _ w6 ⟨rfl, hb6⟩
      have hB6 := hbx.trans (hb6.mono szx)
      push_cast -dsimp
      refine ⟨by omega, by simp only [List.length_append, List.length_cons, List.length_nil]; omega, ?_, hB6⟩
      rfl
end Go.Proofs.YtplbgmoeannobaaGreatDoor
