import Derived.Test.YtplbgmoeannobaaGreatDoorArg
import Derived.Test.YtplbgmoeannobaaGreatDoorPset
import Derived.Test.YtplbgmoeannobaaGreatDoorVo
import Derived.Test.YtplbgmoeannobaaGreatDoorVw
namespace Go.Vc
open Go.RowKit
theorem Own.at0R {α : Type} {base k : Nat} {e : TypeId} {enc : α → List Value} {w : World} {b o n c : Nat} {l : List α} (h : Own base e k enc w (.slice (some ⟨b, o, none⟩) n c) l) : o = 0 := by
  rcases h.1.2 with ⟨he, _⟩ | ⟨g, cap, cr, he, _⟩
  · cases he
  · cases he; rfl
section
variable {P : Program} {t : Fr} {w : World} {C : World → Prop} {K : VK}
theorem mixK_max (d) (args : List Operand) (aty ty pos af g) (p) : mixK P ⟨d, .call { callee := .builtin .max, args := args.toArray, argTypes := aty }, ty, pos, af, g⟩ t w C K p =
    mmK true (args.map (ev t)) (K · w) False .mk := rfl
theorem mixK_min (d) (args : List Operand) (aty ty pos af g) (p) : mixK P ⟨d, .call { callee := .builtin .min, args := args.toArray, argTypes := aty }, ty, pos, af, g⟩ t w C K p =
    mmK false (args.map (ev t)) (K · w) False .mk := rfl
end
attribute [push_cast] mixK_max mixK_min
/-- A contract of the library's shelf. -/
theorem fun_of_calls {P : Program} {f : FuncId} {fn : Func} {args : List Value} {w : World} {R : VK} (hf : P.funcs[f]? = some fn) (hb : fn.body.isNone = false) (hn : (fn.name == "runtime.NumGoroutine") = false)
    (h : Calls P f args.toArray w fun e w' => ∃ v, e = .returned v ∧ R v w') : Fun P f args w R := ⟨callFunc_enter hf hb hn, h⟩
theorem ownFresh {α : Type} {w : World} {e : TypeId} {k g G : Nat} {enc : α → List Value} {cur : Array Value} (hk : ∀ x, (enc x).length = k) (hb : w.heap[g]? = some (.cells cur e (0, 0))) (hG : G ≤ maxLen) (hs : cur.size = G * k) : Own g e k enc w (.slice (some ⟨g, 0, none⟩) 0 G) ([] : List α) :=
  ⟨⟨by simp, .inr ⟨g, G, cur, rfl, Nat.le_refl _, hb, Nat.zero_le _, hG, hs, by simp⟩⟩, hk⟩
theorem calls_of_fun {P : Program} {f : FuncId} {args : List Value} {w : World} {R : VK} (h : Fun P f args w R) : Calls P f args.toArray w fun e w' => ∃ v, e = .returned v ∧ R v w' := h.2
end Go.Vc
namespace Go.Proofs.YtplbgmoeannobaaGreatDoor
open Go.Vc Go.Proofs Go.RowKit Cae
set_option maxRecDepth 100000
set_option linter.unusedSimpArgs false
set_option linter.unusedVariables false
attribute [local irreducible] wpL callK valK unitK runK Fun Sl Own vc vcOps opK pureK
set_option maxHeartbeats 4000000

end Go.Proofs.YtplbgmoeannobaaGreatDoor
namespace Go.RowKit
theorem Below.tr {a b c : World} (h : Below a.heap.size a b) (k : Below b.heap.size b c) : Below a.heap.size a c := h.trans (k.mono h.size)
end Go.RowKit
