/-
  Texts in quotes: quote.Quote.
-/
import Derived.Test.YtlapfdcocakloaaDoorSpBld
import Derived.Test.YtlapfdcocakloaaDoorQuo
import Derived.Test.YtlapfdcocakloaaDoorMA
set_option maxRecDepth 20000
set_option linter.unusedVariables false
namespace Go.Chg
open Go.Vc
open Go.RowKit (Below)
variable {w : World} {a : Addr} {l : List UInt8}
theorem shR_4 {c : UInt8} : shR .u8 (c.toNat : Int) 4 = ((c.toNat / 16 : Nat) : Int) := by
  have key : ∀ x : Fin 256, shR .u8 (x.val : Int) 4 = ((x.val / 16 : Nat) : Int) := by decide +kernel
  exact key ⟨c.toNat, c.toNat_lt⟩
theorem wrap_up {n : Nat} (h : n < 16) : IntKind.u8.wrap ((n : Int) + 1) = ((n + 1 : Nat) : Int) := by
  have key : ∀ m : Fin 16, IntKind.u8.wrap ((m.val : Int) + 1) = ((m.val + 1 : Nat) : Int) := by decide +kernel
  exact key ⟨n, h⟩
end Go.Chg
