import Derived.Test.YtplbgmoeannobaaGreatDoorSet
namespace Go.Proofs.YtplbgmoeannobaaGreatDoor
open Go.Vc Go.Proofs Go.RowKit Cae
/-- A slice as an argument is: nil is nil. -/
def Arg (v : Value) : Prop := ∀ n c, v = .slice none n c → n = 0 ∧ c = 0
theorem encR_one : ∀ x, ∀ u ∈ encR x, u.oneCell' = true := by simp [encR, Value.oneCell']
end Go.Proofs.YtplbgmoeannobaaGreatDoor
