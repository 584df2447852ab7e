/-
  'changeoverref06': a text in quotes, and out of them.
-/
import Derived.Test.YtnnoalpkldpjfaaGreatDoorSpQuo2
import Derived.Test.YtnnoalpkldpjfaaGreatDoorSpRef05
set_option maxRecDepth 20000
set_option linter.unusedVariables false
namespace Go.Chg
open Go.Vc
variable {w : World} {l : List UInt8}
theorem tdiv_u8 {c : UInt8} : IntKind.u8.wrap (Int.tdiv (c.toNat : Int) 16) = ((c.toNat / 16 : Nat) : Int) := by
  have key : ∀ x : Fin 256, IntKind.u8.wrap (Int.tdiv (x.val : Int) 16) = ((x.val / 16 : Nat) : Int) := by decide +kernel
  exact key ⟨c.toNat, c.toNat_lt⟩
theorem tmod_u8 {c : UInt8} : Int.tmod (c.toNat : Int) 16 = ((c.toNat % 16 : Nat) : Int) := by
  have key : ∀ x : Fin 256, Int.tmod (x.val : Int) 16 = ((x.val % 16 : Nat) : Int) := by decide +kernel
  exact key ⟨c.toNat, c.toNat_lt⟩
theorem uStep_size (s : List UInt8) : (uStep s).2 = if (dec s).1 = 0 then 1 else (dec s).1 := by unfold uStep; split <;> rfl
end Go.Chg
