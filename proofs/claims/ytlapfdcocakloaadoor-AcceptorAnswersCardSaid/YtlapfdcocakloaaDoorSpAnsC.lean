/-
  Answers: check, encode, decode, text; the laws of chapter 9 about bytes.
-/
import Derived.Test.YtlapfdcocakloaaDoorMB
import Derived.Test.YtlapfdcocakloaaDoorSpRuneK
import Derived.Test.YtlapfdcocakloaaDoorSpItoa
import Derived.Test.YtlapfdcocakloaaDoorSpLine
import Derived.Test.YtlapfdcocakloaaDoorEqs
set_option maxRecDepth 20000
set_option linter.unusedVariables false
namespace Go.Chg
open Go.Vc
variable {w : World} {l : List UInt8} {v p no : Int}
theorem vers_May_eq {K : Bool → World → Prop} (hK : ∀ b, (b = true ↔ v = 1 ∨ v = 2) → K b w) : vers_May v K w := by
  unfold vers_May
  refine ifEq (fun h => hK _ (by simp [h])) (fun h => ifEq (fun h2 => hK _ (by simp [h2])) (fun h2 => hK _ (by simp [h, h2])))
def doneN (l : List UInt8) (p no : Int) : Int := if no ≠ 0 then no else if p < l.length then 3 else 0
theorem doneN_0 {p no : Int} (h : doneN l p no = 0) : no = 0 ∧ ¬ p < l.length := by
  unfold doneN at h
  split at h
  · rename_i h1; exact absurd h h1
  · rename_i h1
    split at h
    · cases h
    · rename_i h2; exact ⟨Classical.byContradiction h1, h2⟩
theorem digits_len {n : Nat} (h : n ≤ 4294967296) : (digits 10 n).length ≤ 20 := Nat.le_succ_of_le (digits_len19 (by omega))
end Go.Chg
