import Derived.Test.YtonedboaomehaaaDoorCov
namespace Go.Proofs.YtonedboaomehaaaDoor
open Go.Vc Go.Proofs Go.RowKit Cae
set_option maxRecDepth 100000
set_option linter.unusedSimpArgs false
set_option linter.unusedVariables false
attribute [local irreducible] wpL callK valK unitK runK Fun Sl Own vc vcOps opK pureK
def readText : List UInt8 := [97, 195, 164, 255, 237, 160, 128]
theorem readText_units : udec 0 readText = [⟨97, 0, 1⟩, ⟨228, 1, 2⟩, ⟨65533, 3, 1⟩, ⟨65533, 4, 1⟩, ⟨65533, 5, 1⟩, ⟨65533, 6, 1⟩] := by
  rw [udec_fuel 7 0 readText (by decide)]
  decide

theorem read_c (w : World) (hg : Least w) : Fun Tryd.prog 6 [] w fun r w' => r = .bool true ∧ Below w.heap.size w w' := by
  refine fun_of_vc Tryd.func6 rfl (by kernel_rfl) [0] rfl ?_
  simp -dsimp only [push_cast, fr0, Tryd.ntmps6, List.length_cons, List.length_nil, Nat.reduceAdd, Nat.reduceSub, List.replicate_succ, List.replicate_zero]
  refine callK_of (decode_c readText (by decide) w hg) ?_
  rintro v w1 ⟨ho, hb⟩
  have hsl := ho.sl
  rw [readText_units] at hsl
  clear ho
  obtain ⟨a, c, hv, hc⟩ := hsl.shape
  obtain ⟨n, hn⟩ : ∃ n : Nat, n = 6 := ⟨_, rfl⟩
  have hv : v = .slice a n c := by rw [hv, hn]; rfl
  subst hv
  rw [hn] at hsl
  obtain ⟨b, o, rfl, _, hcell⟩ := hsl.get (i := 0) rfl
  obtain ⟨b', o', he, _, hcell1⟩ := hsl.get (i := 1) rfl
  cases he
  obtain ⟨b', o', he, _, hcell2⟩ := hsl.get (i := 2) rfl
  cases he
  obtain ⟨b', o', he, _, hcell3⟩ := hsl.get (i := 3) rfl
  cases he
  have c0 : w1.cell? ⟨b, o, none⟩ = some (.int .i64 97) := hcell 0 _ rfl
  have c1 : cellsAt w1 ⟨b, o + 3, none⟩ 0 3 = some [.int .i64 228, .int .i64 1, .int .i64 2] := cellsAt_of [.int .i64 228, .int .i64 1, .int .i64 2] 0 (fun j u hu => by simpa using hcell1 j u hu)
  have c2 : w1.cell? ⟨b, o + 6, none⟩ = some (.int .i64 65533) := hcell2 0 _ rfl
  have c3 : w1.cell? ⟨b, o + 9, none⟩ = some (.int .i64 65533) := hcell3 0 _ rfl
  clear hcell hcell1 hcell2 hcell3 hc hsl
  simp -dsimp only [push_cast, Nat.reduceAdd, Nat.reduceLeDiff, decide_true, c0, c1, c2, c3, Nat.reduceMul, Int.reduceToNat]
  exact ⟨fun _ => ⟨by omega, ⟨by omega, by omega⟩, ⟨by omega, by omega⟩, ⟨by omega, by omega⟩, hb⟩, fun h => absurd (by rw [hn]; rfl) h⟩
end Go.Proofs.YtonedboaomehaaaDoor
