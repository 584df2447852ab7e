/-
  Chapter 6: lines.
-/
import Derived.Test.YtnnoalpkldpjfaaGreatDoorSpLaw06
set_option maxRecDepth 20000
set_option linter.unusedVariables false
namespace Go.Chg
open Go.Vc
variable {w : World} {l : List UInt8}
theorem joinL_sum : ∀ (ws : List (List UInt8)), (ws.flatMap id).length ≤ (joinL [32] ws).length ∧ ws.length ≤ (joinL [32] ws).length + 1 ∧ (joinL [32] ws).length ≤ (ws.flatMap id).length + ws.length
  | [] => by simp [joinL]
  | x :: r => by
    have h := sum_flat (m := [32]) r
    simp only [joinL, List.flatMap_cons, List.length_append, List.length_cons, List.length_nil, id] at h ⊢
    omega
end Go.Chg
