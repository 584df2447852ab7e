/-
  'changeoverref06': out of quotes; words. The plain law of lines.
-/
import Derived.Test.YtnnoalpkldpjfaaGreatDoorSpQuo3
import Derived.Test.YtnnoalpkldpjfaaGreatDoorSpWord
set_option maxRecDepth 20000
set_option linter.unusedVariables false
namespace Go.Chg
open Go.Vc
variable {w : World} {l : List UInt8}
theorem hex_join2 {a b : Nat} (ha : a < 16) (hb : b < 16) : IntKind.u8.wrap (i64 (i64 (16 * (a : Int)) + (b : Int))) = ((b8 (16 * a + b)).toNat : Int) := by
  have key : ∀ m k : Fin 16, IntKind.u8.wrap (i64 (i64 (16 * (m.val : Int)) + (k.val : Int))) = ((b8 (16 * m.val + k.val)).toNat : Int) := by decide +kernel
  exact key ⟨a, ha⟩ ⟨b, hb⟩
end Go.Chg
